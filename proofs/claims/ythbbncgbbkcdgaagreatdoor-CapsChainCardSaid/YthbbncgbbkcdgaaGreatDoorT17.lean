/- Contracts: a tree of capabilities: all of which something holds. -/
import Derived.Test.YthbbncgbbkcdgaaGreatDoorT13
import Derived.Test.YthbbncgbbkcdgaaGreatDoorT14
import Derived.Test.YthbbncgbbkcdgaaGreatDoorT16
set_option linter.unusedSimpArgs false
set_option linter.unusedVariables false
set_option linter.unnecessarySimpa false
namespace Go.Proofs.As0
open Go Go.Eng
attribute [local irreducible] opW callW cvW invW grdW cndW ldR dopW dcallW dcvW dgrdW loopW

def placeRow (q : Nat) : List AV := [.int .i64 ((q / 8 : Nat) : Int), .int .i64 ((q % 8 : Nat) : Int)]

/-- The places below a number at which there is a capability of which something holds. -/
def allN (L : Nat → Cap) (H : Nat → Bool) (k : Nat) : List Nat := (List.range k).filter fun q => decide ((L q).r ≠ 0) && H q
def allR (L : Nat → Cap) (H : Nat → Bool) (k : Nat) : List (List AV) := (allN L H k).map placeRow

theorem allR_succ (L : Nat → Cap) (H : Nat → Bool) (k : Nat) : allR L H (k + 1) = allR L H k ++ (if (L k).r ≠ 0 ∧ H k = true then [placeRow k] else []) := by
  unfold allR allN
  rw [List.range_succ, List.filter_append, List.map_append]
  congr 1
  by_cases h1 : (L k).r = 0 <;> by_cases h2 : H k = true <;> simp [h1, h2]
theorem allR_len (L : Nat → Cap) (H : Nat → Bool) (k : Nat) : (allR L H k).length ≤ k := by
  unfold allR allN
  rw [List.length_map]
  exact Nat.le_trans (List.length_filter_le _ _) (by simp)
theorem allR_row (L : Nat → Cap) (H : Nat → Bool) (k : Nat) : ∀ r ∈ allR L H k, r.length = 2 := by
  intro r hr
  simp only [allR, List.mem_map] at hr
  obtain ⟨q, _, rfl⟩ := hr
  rfl

/-- What the slice that grows stands for. -/
structure Grown (n : Nat) (h : Heap) (n1 : Nat) (h1 : Heap) (b e : Nat) (rows : List (List AV)) : Prop where
  good : Good n1 h1
  le : n ≤ n1
  old : ∀ x, x < n → h1 x = h x
  at_ : rows ≠ [] → n ≤ b ∧ b < n1 ∧ h1 b = some (.cells e rows.flatten)

set_option maxRecDepth 20000 in
theorem all_ev {t B E : Nat} {L : Nat → Cap} {h : Heap} {n : Nat} (g : Good n h) (T : TreeAt h t B E L) (hE : E ≤ 4) {f : Nat} {caps : List AV} {H : Nat → Bool}
    (hcl : ∀ h1 n1, Good n1 h1 → n ≤ n1 → (∀ x, x < n → h1 x = h x) → ∀ q, q < 8 * E → (L q).r ≠ 0 → FEv Tryz.prog f (.agg (placeRow q) :: .agg (L q).row :: caps) h1 n1 (.bool (H q)) h1 n1) :
    callW Tryz.prog 120 [.ptr t 0, .fn (.func f) [] caps] h n fun v h' n' => ∃ b, v = slV b (allR L H (8 * E)).length ∧ Grown n h n' h' b 2 (allR L H (8 * E)) := by
  have ht := T.t
  have hb := T.b
  have l1 := g.lt ht
  have l2 := g.lt hb
  refine W120_ok ?_
  unfold W120
  repeat (first
    | (refine cw_t ?_)
    | (refine cw_f ?_)
    | (refine gw_run ?_)
    | (refine gw_tf ?_)
    | (refine gw_ft ?_)
    | (refine gw_un ?_)
    | (refine ow_pick_t ?_)
    | (refine ow_pick_f ?_)
    | (refine ow_new ?_)
    | (refine ow_nck_p ?_)
    | (refine ow_nck_i ?_)
    | (refine ow_nck_f ?_)
    | (refine ow_mki ?_)
    | (refine ow_fa rfl ?_)
    | (refine ow_ext rfl ?_)
    | (refine ow_not rfl ?_)
    | (refine ow_peq_pn rfl ?_)
    | (refine ow_peq_nn rfl ?_)
    | (refine ow_peq_np rfl ?_)
    | (refine ow_ieq_in rfl ?_)
    | (refine ow_ieq_nn rfl ?_)
    | (refine ow_ieq_ni rfl ?_)
    | (refine ow_mkf rfl rfl ?_)
    | (refine ow_box (by first | (simp only [cellsA]; rfl) | rfl) ?_)
    | (refine ow_len rfl ?_)
    | (refine ow_lss_t (by omega) ?_)
    | (refine ow_lss_f (by omega) ?_)
    | (refine ow_leq_t (by omega) ?_)
    | (refine ow_leq_f (by omega) ?_)
    | (refine ow_gtr_t (by omega) ?_)
    | (refine ow_gtr_f (by omega) ?_)
    | (refine ow_geq_t (by omega) ?_)
    | (refine ow_geq_f (by omega) ?_)
    | (refine ow_eql_t (by omega) ?_)
    | (refine ow_eql_f (by omega) ?_)
    | (refine ow_neq_t (by omega) ?_)
    | (refine ow_neq_f (by omega) ?_)
    | (refine ow_add_i rfl (by omega) (by omega) ?_)
    | (refine ow_sub_i rfl (by omega) (by omega) ?_)
    | (refine ow_conv_i (by omega) (by omega) ?_)
    | (refine ow_conv_u (by omega) (by omega) ?_)
    | (refine ow_iaA (by omega) (by omega) rfl ?_)
    | (refine ow_iaS (by omega) (by omega) rfl ?_)
    | (refine ow_ld (by repeat (first | exact upd_same _ _ _ | assumption | refine upd_get (by omega) ?_)) (by first | exact part_all rfl | rfl | (simp only [partA, if_true, List.drop_succ_cons, List.drop_zero, List.take_succ_cons, List.take_zero, List.length_cons, List.length_nil, Nat.reduceAdd, Nat.zero_add]; rfl)) ?_)
    | (refine ow_st (by repeat (first | exact upd_same _ _ _ | assumption | refine upd_get (by omega) ?_)) (by first | (simp only [cellsA]; rfl) | rfl) rfl (by first | (simp; done) | exact Nat.le_refl _) rfl (by first | exact splice_all rfl | (simp only [splice, List.take_succ_cons, List.take_zero, List.drop_succ_cons, List.drop_zero, List.length_cons, List.length_nil, List.cons_append, List.nil_append, Nat.reduceAdd, Nat.zero_add, Nat.add_zero]; rfl)) ?_)
    | (refine ow_build (by simp only [repl, List.append_nil, fillA, List.map, ev, cellsA, splice, List.take_succ_cons, List.take_zero, List.drop_succ_cons, List.drop_zero, List.length_cons, List.length_nil, List.cons_append, List.nil_append, Nat.reduceAdd, Nat.zero_add, Nat.add_zero, true_and, and_self, if_true, Nat.reduceLeDiff, Nat.le_refl]; rfl) ?_)
    | (refine ow_bsl (by simp only [repl, List.append_nil, fillA, List.map, ev, cellsA, splice, List.take_succ_cons, List.take_zero, List.drop_succ_cons, List.drop_zero, List.length_cons, List.length_nil, List.cons_append, List.nil_append, Nat.reduceAdd, Nat.zero_add, Nat.add_zero, true_and, and_self, if_true, Nat.reduceLeDiff, Nat.le_refl]; rfl) ?_)
    | (refine ldR_of (by repeat (first | exact upd_same _ _ _ | assumption | refine upd_get (by omega) ?_)) (by first | exact part_all rfl | rfl | (simp only [partA, if_true, List.drop_succ_cons, List.drop_zero, List.take_succ_cons, List.take_zero, List.length_cons, List.length_nil, Nat.reduceAdd, Nat.zero_add]; rfl)) ?_)
    | (refine dow_ld (by repeat (first | exact upd_same _ _ _ | assumption | refine upd_get (by omega) ?_)) (by first | exact part_all rfl | rfl | (simp only [partA, if_true, List.drop_succ_cons, List.drop_zero, List.take_succ_cons, List.take_zero, List.length_cons, List.length_nil, Nat.reduceAdd, Nat.zero_add]; rfl)) (by simp only [meets, and_true]; (try (repeat' apply And.intro)); all_goals (intro z; simp only [fp_d, fp_f, List.mem_cons, List.not_mem_nil, or_false, false_or, not_false_eq_true, true_and, and_true, Bool.false_eq_true, false_and, not_or]; omega)) ?_)
    | (refine dow_new (by simp only [meets, and_true]; (try (repeat' apply And.intro)); all_goals (intro z; simp only [fp_d, fp_f, List.mem_cons, List.not_mem_nil, or_false, false_or, not_false_eq_true, true_and, and_true, Bool.false_eq_true, false_and, not_or]; omega)) ?_)
    | (refine dow_box (by first | (simp only [cellsA]; rfl) | rfl) (by simp only [meets, and_true]; (try (repeat' apply And.intro)); all_goals (intro z; simp only [fp_d, fp_f, List.mem_cons, List.not_mem_nil, or_false, false_or, not_false_eq_true, true_and, and_true, Bool.false_eq_true, false_and, not_or]; omega)) ?_)
    | (refine dow_st (by repeat (first | exact upd_same _ _ _ | assumption | refine upd_get (by omega) ?_)) (by first | (simp only [cellsA]; rfl) | rfl) rfl (by first | (simp; done) | exact Nat.le_refl _) rfl (by first | exact splice_all rfl | (simp only [splice, List.take_succ_cons, List.take_zero, List.drop_succ_cons, List.drop_zero, List.length_cons, List.length_nil, List.cons_append, List.nil_append, Nat.reduceAdd, Nat.zero_add, Nat.add_zero]; rfl)) (by simp only [meets, and_true]; (try (repeat' apply And.intro)); all_goals (intro z; simp only [fp_d, fp_f, List.mem_cons, List.not_mem_nil, or_false, false_or, not_false_eq_true, true_and, and_true, Bool.false_eq_true, false_and, not_or]; omega)) ?_)
    | (refine dgw_run ?_)
    | (refine dgw_tf ?_)
    | (refine dgw_ft ?_)
    | (refine dgw_un ?_))
  refine loopW_inv mixed (fun d a h1 n1 => ∃ gg b i, a = tl 50 gg ∧ gg 0 = .ptr t 0 ∧ gg 1 = .fn (.func f) [] caps ∧ gg 16 = .int .i64 (E : Int) ∧ gg 17 = .int .i64 ((i : Nat) : Int) ∧ gg 5 = slV b (allR L H (8 * i)).length ∧
    i ≤ E ∧ d = E - i ∧ Grown n h n1 h1 b 2 (allR L H (8 * i))) (d := E) ?_
    ⟨_, 0, 0, rfl, rfl, rfl, rfl, rfl, rfl, Nat.zero_le _, rfl, g, Nat.le_refl _, fun _ _ => rfl, fun h => absurd rfl h⟩
  intro d a h1 n1 hI
  obtain ⟨gg, b, i, ha, g0, g1, g16, g17, g5, hi, hd, hG⟩ := hI
  subst ha
  rw [B120_0_eq]
  unfold B120_0
  rw [g0, g16, g17]
  by_cases hlt : i < E
  · have ht1 : h1 t = some (.cells 0 [.sl B 0 0 E (some E)]) := by rw [hG.old t l1]; exact ht
    have hb1 : h1 B = some (.cells 32 (enc Cap.row (8 * E) L)) := by rw [hG.old B l2]; exact hb
    repeat (first
      | (refine ow_ld (by repeat (first | exact upd_same _ _ _ | assumption | refine upd_get (by omega) ?_)) (v := .agg (enc Cap.row 8 fun s => L (8 * i + s))) (by have := partA_sub Cap.len (by omega) L (i := 8 * i) (m := 8) (n := 8 * E) (by omega); rw [show 0 + (i : Int).toNat * 32 = 8 * i * 4 by omega]; exact this) ?_)
      | (refine cw_t ?_)
      | (refine cw_f ?_)
      | (refine gw_run ?_)
      | (refine gw_tf ?_)
      | (refine gw_ft ?_)
      | (refine gw_un ?_)
      | (refine ow_pick_t ?_)
      | (refine ow_pick_f ?_)
      | (refine ow_new ?_)
      | (refine ow_nck_p ?_)
      | (refine ow_nck_i ?_)
      | (refine ow_nck_f ?_)
      | (refine ow_mki ?_)
      | (refine ow_fa rfl ?_)
      | (refine ow_ext rfl ?_)
      | (refine ow_not rfl ?_)
      | (refine ow_peq_pn rfl ?_)
      | (refine ow_peq_nn rfl ?_)
      | (refine ow_peq_np rfl ?_)
      | (refine ow_ieq_in rfl ?_)
      | (refine ow_ieq_nn rfl ?_)
      | (refine ow_ieq_ni rfl ?_)
      | (refine ow_mkf rfl rfl ?_)
      | (refine ow_box (by first | (simp only [cellsA]; rfl) | rfl) ?_)
      | (refine ow_len rfl ?_)
      | (refine ow_lss_t (by omega) ?_)
      | (refine ow_lss_f (by omega) ?_)
      | (refine ow_leq_t (by omega) ?_)
      | (refine ow_leq_f (by omega) ?_)
      | (refine ow_gtr_t (by omega) ?_)
      | (refine ow_gtr_f (by omega) ?_)
      | (refine ow_geq_t (by omega) ?_)
      | (refine ow_geq_f (by omega) ?_)
      | (refine ow_eql_t (by omega) ?_)
      | (refine ow_eql_f (by omega) ?_)
      | (refine ow_neq_t (by omega) ?_)
      | (refine ow_neq_f (by omega) ?_)
      | (refine ow_add_i rfl (by omega) (by omega) ?_)
      | (refine ow_sub_i rfl (by omega) (by omega) ?_)
      | (refine ow_conv_i (by omega) (by omega) ?_)
      | (refine ow_conv_u (by omega) (by omega) ?_)
      | (refine ow_iaA (by omega) (by omega) rfl ?_)
      | (refine ow_iaS (by omega) (by omega) rfl ?_)
      | (refine ow_ld (by repeat (first | exact upd_same _ _ _ | assumption | refine upd_get (by omega) ?_)) (by first | exact part_all rfl | rfl | (simp only [partA, if_true, List.drop_succ_cons, List.drop_zero, List.take_succ_cons, List.take_zero, List.length_cons, List.length_nil, Nat.reduceAdd, Nat.zero_add]; rfl)) ?_)
      | (refine ow_st (by repeat (first | exact upd_same _ _ _ | assumption | refine upd_get (by omega) ?_)) (by first | (simp only [cellsA]; rfl) | rfl) rfl (by first | (simp; done) | exact Nat.le_refl _) rfl (by first | exact splice_all rfl | (simp only [splice, List.take_succ_cons, List.take_zero, List.drop_succ_cons, List.drop_zero, List.length_cons, List.length_nil, List.cons_append, List.nil_append, Nat.reduceAdd, Nat.zero_add, Nat.add_zero]; rfl)) ?_)
      | (refine ow_build (by simp only [repl, List.append_nil, fillA, List.map, ev, cellsA, splice, List.take_succ_cons, List.take_zero, List.drop_succ_cons, List.drop_zero, List.length_cons, List.length_nil, List.cons_append, List.nil_append, Nat.reduceAdd, Nat.zero_add, Nat.add_zero, true_and, and_self, if_true, Nat.reduceLeDiff, Nat.le_refl]; rfl) ?_)
      | (refine ow_bsl (by simp only [repl, List.append_nil, fillA, List.map, ev, cellsA, splice, List.take_succ_cons, List.take_zero, List.drop_succ_cons, List.drop_zero, List.length_cons, List.length_nil, List.cons_append, List.nil_append, Nat.reduceAdd, Nat.zero_add, Nat.add_zero, true_and, and_self, if_true, Nat.reduceLeDiff, Nat.le_refl]; rfl) ?_)
      | (refine ldR_of (by repeat (first | exact upd_same _ _ _ | assumption | refine upd_get (by omega) ?_)) (by first | exact part_all rfl | rfl | (simp only [partA, if_true, List.drop_succ_cons, List.drop_zero, List.take_succ_cons, List.take_zero, List.length_cons, List.length_nil, Nat.reduceAdd, Nat.zero_add]; rfl)) ?_)
      | (refine dow_ld (by repeat (first | exact upd_same _ _ _ | assumption | refine upd_get (by omega) ?_)) (by first | exact part_all rfl | rfl | (simp only [partA, if_true, List.drop_succ_cons, List.drop_zero, List.take_succ_cons, List.take_zero, List.length_cons, List.length_nil, Nat.reduceAdd, Nat.zero_add]; rfl)) (by simp only [meets, and_true]; (try (repeat' apply And.intro)); all_goals (intro z; simp only [fp_d, fp_f, List.mem_cons, List.not_mem_nil, or_false, false_or, not_false_eq_true, true_and, and_true, Bool.false_eq_true, false_and, not_or]; omega)) ?_)
      | (refine dow_new (by simp only [meets, and_true]; (try (repeat' apply And.intro)); all_goals (intro z; simp only [fp_d, fp_f, List.mem_cons, List.not_mem_nil, or_false, false_or, not_false_eq_true, true_and, and_true, Bool.false_eq_true, false_and, not_or]; omega)) ?_)
      | (refine dow_box (by first | (simp only [cellsA]; rfl) | rfl) (by simp only [meets, and_true]; (try (repeat' apply And.intro)); all_goals (intro z; simp only [fp_d, fp_f, List.mem_cons, List.not_mem_nil, or_false, false_or, not_false_eq_true, true_and, and_true, Bool.false_eq_true, false_and, not_or]; omega)) ?_)
      | (refine dow_st (by repeat (first | exact upd_same _ _ _ | assumption | refine upd_get (by omega) ?_)) (by first | (simp only [cellsA]; rfl) | rfl) rfl (by first | (simp; done) | exact Nat.le_refl _) rfl (by first | exact splice_all rfl | (simp only [splice, List.take_succ_cons, List.take_zero, List.drop_succ_cons, List.drop_zero, List.length_cons, List.length_nil, List.cons_append, List.nil_append, Nat.reduceAdd, Nat.zero_add, Nat.add_zero]; rfl)) (by simp only [meets, and_true]; (try (repeat' apply And.intro)); all_goals (intro z; simp only [fp_d, fp_f, List.mem_cons, List.not_mem_nil, or_false, false_or, not_false_eq_true, true_and, and_true, Bool.false_eq_true, false_and, not_or]; omega)) ?_)
      | (refine dgw_run ?_)
      | (refine dgw_tf ?_)
      | (refine dgw_ft ?_)
      | (refine dgw_un ?_))
    refine loopW_inv mixed (fun d' a h2 n2 => ∃ gg b j, a = tl 50 gg ∧ gg 0 = .ptr t 0 ∧ gg 1 = .fn (.func f) [] caps ∧ gg 16 = .int .i64 (E : Int) ∧ gg 17 = .int .i64 ((i : Nat) : Int) ∧ gg 6 = .int .i64 ((i : Nat) : Int) ∧
      gg 26 = .agg (enc Cap.row 8 fun s => L (8 * i + s)) ∧ gg 27 = .int .i64 ((j : Nat) : Int) ∧ gg 5 = slV b (allR L H (8 * i + j)).length ∧
      j ≤ 8 ∧ d' = 8 - j ∧ Grown n h n2 h2 b 2 (allR L H (8 * i + j))) (d := 8) ?_
      ⟨_, b, 0, rfl, g0, g1, g16, g17, rfl, rfl, rfl, g5, by omega, rfl, hG⟩
    intro d' a h2 n2 hI
    obtain ⟨gg, b, j, ha, g0, g1, g16, g17, g6, g26, g27, g5, hj, hd', hG⟩ := hI
    subst ha
    rw [B120_1_eq]
    unfold B120_1
    rw [g1, g5, g6, g26, g27]
    by_cases hlt2 : j < 8
    · have hpl : placeRow (8 * i + j) = [.int .i64 ((i : Nat) : Int), .int .i64 ((j : Nat) : Int)] := by
        unfold placeRow
        rw [show (8 * i + j) / 8 = i by omega, show (8 * i + j) % 8 = j by omega]
      have q1 : 8 * i + j < 8 * E := by omega
      have old2 := hG.old
      have gd := hG.good
      have le2 := hG.le
      by_cases hr : (L (8 * i + j)).r = 0
      · repeat (first
          | (refine ow_ixA (by omega) (by omega) (cap_row (q := j) (by omega) hlt2) ?_)
          | (refine cw_t ?_)
          | (refine cw_f ?_)
          | (refine gw_run ?_)
          | (refine gw_tf ?_)
          | (refine gw_ft ?_)
          | (refine gw_un ?_)
          | (refine ow_pick_t ?_)
          | (refine ow_pick_f ?_)
          | (refine ow_new ?_)
          | (refine ow_nck_p ?_)
          | (refine ow_nck_i ?_)
          | (refine ow_nck_f ?_)
          | (refine ow_mki ?_)
          | (refine ow_fa rfl ?_)
          | (refine ow_ext rfl ?_)
          | (refine ow_not rfl ?_)
          | (refine ow_peq_pn rfl ?_)
          | (refine ow_peq_nn rfl ?_)
          | (refine ow_peq_np rfl ?_)
          | (refine ow_ieq_in rfl ?_)
          | (refine ow_ieq_nn rfl ?_)
          | (refine ow_ieq_ni rfl ?_)
          | (refine ow_mkf rfl rfl ?_)
          | (refine ow_box (by first | (simp only [cellsA]; rfl) | rfl) ?_)
          | (refine ow_len rfl ?_)
          | (refine ow_lss_t (by omega) ?_)
          | (refine ow_lss_f (by omega) ?_)
          | (refine ow_leq_t (by omega) ?_)
          | (refine ow_leq_f (by omega) ?_)
          | (refine ow_gtr_t (by omega) ?_)
          | (refine ow_gtr_f (by omega) ?_)
          | (refine ow_geq_t (by omega) ?_)
          | (refine ow_geq_f (by omega) ?_)
          | (refine ow_eql_t (by omega) ?_)
          | (refine ow_eql_f (by omega) ?_)
          | (refine ow_neq_t (by omega) ?_)
          | (refine ow_neq_f (by omega) ?_)
          | (refine ow_add_i rfl (by omega) (by omega) ?_)
          | (refine ow_sub_i rfl (by omega) (by omega) ?_)
          | (refine ow_conv_i (by omega) (by omega) ?_)
          | (refine ow_conv_u (by omega) (by omega) ?_)
          | (refine ow_iaA (by omega) (by omega) rfl ?_)
          | (refine ow_iaS (by omega) (by omega) rfl ?_)
          | (refine ow_ld (by repeat (first | exact upd_same _ _ _ | assumption | refine upd_get (by omega) ?_)) (by first | exact part_all rfl | rfl | (simp only [partA, if_true, List.drop_succ_cons, List.drop_zero, List.take_succ_cons, List.take_zero, List.length_cons, List.length_nil, Nat.reduceAdd, Nat.zero_add]; rfl)) ?_)
          | (refine ow_st (by repeat (first | exact upd_same _ _ _ | assumption | refine upd_get (by omega) ?_)) (by first | (simp only [cellsA]; rfl) | rfl) rfl (by first | (simp; done) | exact Nat.le_refl _) rfl (by first | exact splice_all rfl | (simp only [splice, List.take_succ_cons, List.take_zero, List.drop_succ_cons, List.drop_zero, List.length_cons, List.length_nil, List.cons_append, List.nil_append, Nat.reduceAdd, Nat.zero_add, Nat.add_zero]; rfl)) ?_)
          | (refine ow_build (by simp only [repl, List.append_nil, fillA, List.map, ev, cellsA, splice, List.take_succ_cons, List.take_zero, List.drop_succ_cons, List.drop_zero, List.length_cons, List.length_nil, List.cons_append, List.nil_append, Nat.reduceAdd, Nat.zero_add, Nat.add_zero, true_and, and_self, if_true, Nat.reduceLeDiff, Nat.le_refl]; rfl) ?_)
          | (refine ow_bsl (by simp only [repl, List.append_nil, fillA, List.map, ev, cellsA, splice, List.take_succ_cons, List.take_zero, List.drop_succ_cons, List.drop_zero, List.length_cons, List.length_nil, List.cons_append, List.nil_append, Nat.reduceAdd, Nat.zero_add, Nat.add_zero, true_and, and_self, if_true, Nat.reduceLeDiff, Nat.le_refl]; rfl) ?_)
          | (refine ldR_of (by repeat (first | exact upd_same _ _ _ | assumption | refine upd_get (by omega) ?_)) (by first | exact part_all rfl | rfl | (simp only [partA, if_true, List.drop_succ_cons, List.drop_zero, List.take_succ_cons, List.take_zero, List.length_cons, List.length_nil, Nat.reduceAdd, Nat.zero_add]; rfl)) ?_)
          | (refine dow_ld (by repeat (first | exact upd_same _ _ _ | assumption | refine upd_get (by omega) ?_)) (by first | exact part_all rfl | rfl | (simp only [partA, if_true, List.drop_succ_cons, List.drop_zero, List.take_succ_cons, List.take_zero, List.length_cons, List.length_nil, Nat.reduceAdd, Nat.zero_add]; rfl)) (by simp only [meets, and_true]; (try (repeat' apply And.intro)); all_goals (intro z; simp only [fp_d, fp_f, List.mem_cons, List.not_mem_nil, or_false, false_or, not_false_eq_true, true_and, and_true, Bool.false_eq_true, false_and, not_or]; omega)) ?_)
          | (refine dow_new (by simp only [meets, and_true]; (try (repeat' apply And.intro)); all_goals (intro z; simp only [fp_d, fp_f, List.mem_cons, List.not_mem_nil, or_false, false_or, not_false_eq_true, true_and, and_true, Bool.false_eq_true, false_and, not_or]; omega)) ?_)
          | (refine dow_box (by first | (simp only [cellsA]; rfl) | rfl) (by simp only [meets, and_true]; (try (repeat' apply And.intro)); all_goals (intro z; simp only [fp_d, fp_f, List.mem_cons, List.not_mem_nil, or_false, false_or, not_false_eq_true, true_and, and_true, Bool.false_eq_true, false_and, not_or]; omega)) ?_)
          | (refine dow_st (by repeat (first | exact upd_same _ _ _ | assumption | refine upd_get (by omega) ?_)) (by first | (simp only [cellsA]; rfl) | rfl) rfl (by first | (simp; done) | exact Nat.le_refl _) rfl (by first | exact splice_all rfl | (simp only [splice, List.take_succ_cons, List.take_zero, List.drop_succ_cons, List.drop_zero, List.length_cons, List.length_nil, List.cons_append, List.nil_append, Nat.reduceAdd, Nat.zero_add, Nat.add_zero]; rfl)) (by simp only [meets, and_true]; (try (repeat' apply And.intro)); all_goals (intro z; simp only [fp_d, fp_f, List.mem_cons, List.not_mem_nil, or_false, false_or, not_false_eq_true, true_and, and_true, Bool.false_eq_true, false_and, not_or]; omega)) ?_)
          | (refine dgw_run ?_)
          | (refine dgw_tf ?_)
          | (refine dgw_ft ?_)
          | (refine dgw_un ?_))
        have e : allR L H (8 * i + (j + 1)) = allR L H (8 * i + j) := by
          rw [← Nat.add_assoc, allR_succ]; simp [hr]
        refine ⟨8 - (j + 1), by omega, _, b, j + 1, rfl, g0, g1, g16, g17, g6, g26, rfl, ?_, by omega, rfl, ?_⟩
        · rw [e]; exact g5
        · rw [e]
          exact ⟨(by repeat (first | exact Good.mono (by assumption) (by omega) | (refine Good.upd ?_ (by omega) (by first | rfl | (refine belowL_mono ?_ _ (by assumption); omega) | (simp [belowB, belowL, below]; (try omega)))))), by omega, fun x hx => by repeat (first | exact old2 x hx | refine upd_get (by omega) ?_), fun hne => by
            obtain ⟨a1, a2, a3⟩ := hG.at_ hne
            exact ⟨a1, by omega, by repeat (first | exact a3 | refine upd_get (by omega) ?_)⟩⟩
      · cases hH : H (8 * i + j) with
        | false =>
          repeat (first
            | (refine ow_ixA (by omega) (by omega) (cap_row (q := j) (by omega) hlt2) ?_)
            | (refine cvw (l := .agg (placeRow (8 * i + j)) :: .agg (L (8 * i + j)).row :: caps) (by rw [hpl]; rfl) ?_)
            | (refine cal (hcl _ _ (by repeat (first | exact Good.mono (by assumption) (by omega) | (refine Good.upd ?_ (by omega) (by first | rfl | (refine belowL_mono ?_ _ (by assumption); omega) | (simp [belowB, belowL, below]; (try omega)))))) (by omega) (fun x hx => by repeat (first | exact old2 x hx | refine upd_get (by omega) ?_)) (8 * i + j) q1 hr) ?_)
            | (rw [hH])
            | (refine cw_t ?_)
            | (refine cw_f ?_)
            | (refine gw_run ?_)
            | (refine gw_tf ?_)
            | (refine gw_ft ?_)
            | (refine gw_un ?_)
            | (refine ow_pick_t ?_)
            | (refine ow_pick_f ?_)
            | (refine ow_new ?_)
            | (refine ow_nck_p ?_)
            | (refine ow_nck_i ?_)
            | (refine ow_nck_f ?_)
            | (refine ow_mki ?_)
            | (refine ow_fa rfl ?_)
            | (refine ow_ext rfl ?_)
            | (refine ow_not rfl ?_)
            | (refine ow_peq_pn rfl ?_)
            | (refine ow_peq_nn rfl ?_)
            | (refine ow_peq_np rfl ?_)
            | (refine ow_ieq_in rfl ?_)
            | (refine ow_ieq_nn rfl ?_)
            | (refine ow_ieq_ni rfl ?_)
            | (refine ow_mkf rfl rfl ?_)
            | (refine ow_box (by first | (simp only [cellsA]; rfl) | rfl) ?_)
            | (refine ow_len rfl ?_)
            | (refine ow_lss_t (by omega) ?_)
            | (refine ow_lss_f (by omega) ?_)
            | (refine ow_leq_t (by omega) ?_)
            | (refine ow_leq_f (by omega) ?_)
            | (refine ow_gtr_t (by omega) ?_)
            | (refine ow_gtr_f (by omega) ?_)
            | (refine ow_geq_t (by omega) ?_)
            | (refine ow_geq_f (by omega) ?_)
            | (refine ow_eql_t (by omega) ?_)
            | (refine ow_eql_f (by omega) ?_)
            | (refine ow_neq_t (by omega) ?_)
            | (refine ow_neq_f (by omega) ?_)
            | (refine ow_add_i rfl (by omega) (by omega) ?_)
            | (refine ow_sub_i rfl (by omega) (by omega) ?_)
            | (refine ow_conv_i (by omega) (by omega) ?_)
            | (refine ow_conv_u (by omega) (by omega) ?_)
            | (refine ow_iaA (by omega) (by omega) rfl ?_)
            | (refine ow_iaS (by omega) (by omega) rfl ?_)
            | (refine ow_ld (by repeat (first | exact upd_same _ _ _ | assumption | refine upd_get (by omega) ?_)) (by first | exact part_all rfl | rfl | (simp only [partA, if_true, List.drop_succ_cons, List.drop_zero, List.take_succ_cons, List.take_zero, List.length_cons, List.length_nil, Nat.reduceAdd, Nat.zero_add]; rfl)) ?_)
            | (refine ow_st (by repeat (first | exact upd_same _ _ _ | assumption | refine upd_get (by omega) ?_)) (by first | (simp only [cellsA]; rfl) | rfl) rfl (by first | (simp; done) | exact Nat.le_refl _) rfl (by first | exact splice_all rfl | (simp only [splice, List.take_succ_cons, List.take_zero, List.drop_succ_cons, List.drop_zero, List.length_cons, List.length_nil, List.cons_append, List.nil_append, Nat.reduceAdd, Nat.zero_add, Nat.add_zero]; rfl)) ?_)
            | (refine ow_build (by simp only [repl, List.append_nil, fillA, List.map, ev, cellsA, splice, List.take_succ_cons, List.take_zero, List.drop_succ_cons, List.drop_zero, List.length_cons, List.length_nil, List.cons_append, List.nil_append, Nat.reduceAdd, Nat.zero_add, Nat.add_zero, true_and, and_self, if_true, Nat.reduceLeDiff, Nat.le_refl]; rfl) ?_)
            | (refine ow_bsl (by simp only [repl, List.append_nil, fillA, List.map, ev, cellsA, splice, List.take_succ_cons, List.take_zero, List.drop_succ_cons, List.drop_zero, List.length_cons, List.length_nil, List.cons_append, List.nil_append, Nat.reduceAdd, Nat.zero_add, Nat.add_zero, true_and, and_self, if_true, Nat.reduceLeDiff, Nat.le_refl]; rfl) ?_)
            | (refine ldR_of (by repeat (first | exact upd_same _ _ _ | assumption | refine upd_get (by omega) ?_)) (by first | exact part_all rfl | rfl | (simp only [partA, if_true, List.drop_succ_cons, List.drop_zero, List.take_succ_cons, List.take_zero, List.length_cons, List.length_nil, Nat.reduceAdd, Nat.zero_add]; rfl)) ?_)
            | (refine dow_ld (by repeat (first | exact upd_same _ _ _ | assumption | refine upd_get (by omega) ?_)) (by first | exact part_all rfl | rfl | (simp only [partA, if_true, List.drop_succ_cons, List.drop_zero, List.take_succ_cons, List.take_zero, List.length_cons, List.length_nil, Nat.reduceAdd, Nat.zero_add]; rfl)) (by simp only [meets, and_true]; (try (repeat' apply And.intro)); all_goals (intro z; simp only [fp_d, fp_f, List.mem_cons, List.not_mem_nil, or_false, false_or, not_false_eq_true, true_and, and_true, Bool.false_eq_true, false_and, not_or]; omega)) ?_)
            | (refine dow_new (by simp only [meets, and_true]; (try (repeat' apply And.intro)); all_goals (intro z; simp only [fp_d, fp_f, List.mem_cons, List.not_mem_nil, or_false, false_or, not_false_eq_true, true_and, and_true, Bool.false_eq_true, false_and, not_or]; omega)) ?_)
            | (refine dow_box (by first | (simp only [cellsA]; rfl) | rfl) (by simp only [meets, and_true]; (try (repeat' apply And.intro)); all_goals (intro z; simp only [fp_d, fp_f, List.mem_cons, List.not_mem_nil, or_false, false_or, not_false_eq_true, true_and, and_true, Bool.false_eq_true, false_and, not_or]; omega)) ?_)
            | (refine dow_st (by repeat (first | exact upd_same _ _ _ | assumption | refine upd_get (by omega) ?_)) (by first | (simp only [cellsA]; rfl) | rfl) rfl (by first | (simp; done) | exact Nat.le_refl _) rfl (by first | exact splice_all rfl | (simp only [splice, List.take_succ_cons, List.take_zero, List.drop_succ_cons, List.drop_zero, List.length_cons, List.length_nil, List.cons_append, List.nil_append, Nat.reduceAdd, Nat.zero_add, Nat.add_zero]; rfl)) (by simp only [meets, and_true]; (try (repeat' apply And.intro)); all_goals (intro z; simp only [fp_d, fp_f, List.mem_cons, List.not_mem_nil, or_false, false_or, not_false_eq_true, true_and, and_true, Bool.false_eq_true, false_and, not_or]; omega)) ?_)
            | (refine dgw_run ?_)
            | (refine dgw_tf ?_)
            | (refine dgw_ft ?_)
            | (refine dgw_un ?_))
          have e : allR L H (8 * i + (j + 1)) = allR L H (8 * i + j) := by
            rw [← Nat.add_assoc, allR_succ]; simp [hH]
          refine ⟨8 - (j + 1), by omega, _, b, j + 1, rfl, g0, g1, g16, g17, g6, g26, rfl, ?_, by omega, rfl, ?_⟩
          · rw [e]; exact g5
          · rw [e]
            exact ⟨(by repeat (first | exact Good.mono (by assumption) (by omega) | (refine Good.upd ?_ (by omega) (by first | rfl | (refine belowL_mono ?_ _ (by assumption); omega) | (simp [belowB, belowL, below]; (try omega)))))), by omega, fun x hx => by repeat (first | exact old2 x hx | refine upd_get (by omega) ?_), fun hne => by
              obtain ⟨a1, a2, a3⟩ := hG.at_ hne
              exact ⟨a1, by omega, by repeat (first | exact a3 | refine upd_get (by omega) ?_)⟩⟩
        | true =>
          have hlen := allR_len L H (8 * i + j)
          repeat (first
            | (refine ow_ixA (by omega) (by omega) (cap_row (q := j) (by omega) hlt2) ?_)
            | (refine cvw (l := .agg (placeRow (8 * i + j)) :: .agg (L (8 * i + j)).row :: caps) (by rw [hpl]; rfl) ?_)
            | (refine cal (hcl _ _ (by repeat (first | exact Good.mono (by assumption) (by omega) | (refine Good.upd ?_ (by omega) (by first | rfl | (refine belowL_mono ?_ _ (by assumption); omega) | (simp [belowB, belowL, below]; (try omega)))))) (by omega) (fun x hx => by repeat (first | exact old2 x hx | refine upd_get (by omega) ?_)) (8 * i + j) q1 hr) ?_)
            | (rw [hH])
            | (refine ow_app1 (rows := allR L H (8 * i + j)) (row := [.int .i64 ((i : Nat) : Int), .int .i64 ((j : Nat) : Int)]) (b := b) (by omega) (fun hne => by { obtain ⟨a1, a2, a3⟩ := hG.at_ hne; repeat (first | exact a3 | refine upd_get (by omega) ?_) }) (allR_row L H _) (by repeat (first | exact upd_same _ _ _ | assumption | refine upd_get (by omega) ?_)) rfl rfl (by omega) (by omega) ?_)
            | (refine cw_t ?_)
            | (refine cw_f ?_)
            | (refine gw_run ?_)
            | (refine gw_tf ?_)
            | (refine gw_ft ?_)
            | (refine gw_un ?_)
            | (refine ow_pick_t ?_)
            | (refine ow_pick_f ?_)
            | (refine ow_new ?_)
            | (refine ow_nck_p ?_)
            | (refine ow_nck_i ?_)
            | (refine ow_nck_f ?_)
            | (refine ow_mki ?_)
            | (refine ow_fa rfl ?_)
            | (refine ow_ext rfl ?_)
            | (refine ow_not rfl ?_)
            | (refine ow_peq_pn rfl ?_)
            | (refine ow_peq_nn rfl ?_)
            | (refine ow_peq_np rfl ?_)
            | (refine ow_ieq_in rfl ?_)
            | (refine ow_ieq_nn rfl ?_)
            | (refine ow_ieq_ni rfl ?_)
            | (refine ow_mkf rfl rfl ?_)
            | (refine ow_box (by first | (simp only [cellsA]; rfl) | rfl) ?_)
            | (refine ow_len rfl ?_)
            | (refine ow_lss_t (by omega) ?_)
            | (refine ow_lss_f (by omega) ?_)
            | (refine ow_leq_t (by omega) ?_)
            | (refine ow_leq_f (by omega) ?_)
            | (refine ow_gtr_t (by omega) ?_)
            | (refine ow_gtr_f (by omega) ?_)
            | (refine ow_geq_t (by omega) ?_)
            | (refine ow_geq_f (by omega) ?_)
            | (refine ow_eql_t (by omega) ?_)
            | (refine ow_eql_f (by omega) ?_)
            | (refine ow_neq_t (by omega) ?_)
            | (refine ow_neq_f (by omega) ?_)
            | (refine ow_add_i rfl (by omega) (by omega) ?_)
            | (refine ow_sub_i rfl (by omega) (by omega) ?_)
            | (refine ow_conv_i (by omega) (by omega) ?_)
            | (refine ow_conv_u (by omega) (by omega) ?_)
            | (refine ow_iaA (by omega) (by omega) rfl ?_)
            | (refine ow_iaS (by omega) (by omega) rfl ?_)
            | (refine ow_ld (by repeat (first | exact upd_same _ _ _ | assumption | refine upd_get (by omega) ?_)) (by first | exact part_all rfl | rfl | (simp only [partA, if_true, List.drop_succ_cons, List.drop_zero, List.take_succ_cons, List.take_zero, List.length_cons, List.length_nil, Nat.reduceAdd, Nat.zero_add]; rfl)) ?_)
            | (refine ow_st (by repeat (first | exact upd_same _ _ _ | assumption | refine upd_get (by omega) ?_)) (by first | (simp only [cellsA]; rfl) | rfl) rfl (by first | (simp; done) | exact Nat.le_refl _) rfl (by first | exact splice_all rfl | (simp only [splice, List.take_succ_cons, List.take_zero, List.drop_succ_cons, List.drop_zero, List.length_cons, List.length_nil, List.cons_append, List.nil_append, Nat.reduceAdd, Nat.zero_add, Nat.add_zero]; rfl)) ?_)
            | (refine ow_build (by simp only [repl, List.append_nil, fillA, List.map, ev, cellsA, splice, List.take_succ_cons, List.take_zero, List.drop_succ_cons, List.drop_zero, List.length_cons, List.length_nil, List.cons_append, List.nil_append, Nat.reduceAdd, Nat.zero_add, Nat.add_zero, true_and, and_self, if_true, Nat.reduceLeDiff, Nat.le_refl]; rfl) ?_)
            | (refine ow_bsl (by simp only [repl, List.append_nil, fillA, List.map, ev, cellsA, splice, List.take_succ_cons, List.take_zero, List.drop_succ_cons, List.drop_zero, List.length_cons, List.length_nil, List.cons_append, List.nil_append, Nat.reduceAdd, Nat.zero_add, Nat.add_zero, true_and, and_self, if_true, Nat.reduceLeDiff, Nat.le_refl]; rfl) ?_)
            | (refine ldR_of (by repeat (first | exact upd_same _ _ _ | assumption | refine upd_get (by omega) ?_)) (by first | exact part_all rfl | rfl | (simp only [partA, if_true, List.drop_succ_cons, List.drop_zero, List.take_succ_cons, List.take_zero, List.length_cons, List.length_nil, Nat.reduceAdd, Nat.zero_add]; rfl)) ?_)
            | (refine dow_ld (by repeat (first | exact upd_same _ _ _ | assumption | refine upd_get (by omega) ?_)) (by first | exact part_all rfl | rfl | (simp only [partA, if_true, List.drop_succ_cons, List.drop_zero, List.take_succ_cons, List.take_zero, List.length_cons, List.length_nil, Nat.reduceAdd, Nat.zero_add]; rfl)) (by simp only [meets, and_true]; (try (repeat' apply And.intro)); all_goals (intro z; simp only [fp_d, fp_f, List.mem_cons, List.not_mem_nil, or_false, false_or, not_false_eq_true, true_and, and_true, Bool.false_eq_true, false_and, not_or]; omega)) ?_)
            | (refine dow_new (by simp only [meets, and_true]; (try (repeat' apply And.intro)); all_goals (intro z; simp only [fp_d, fp_f, List.mem_cons, List.not_mem_nil, or_false, false_or, not_false_eq_true, true_and, and_true, Bool.false_eq_true, false_and, not_or]; omega)) ?_)
            | (refine dow_box (by first | (simp only [cellsA]; rfl) | rfl) (by simp only [meets, and_true]; (try (repeat' apply And.intro)); all_goals (intro z; simp only [fp_d, fp_f, List.mem_cons, List.not_mem_nil, or_false, false_or, not_false_eq_true, true_and, and_true, Bool.false_eq_true, false_and, not_or]; omega)) ?_)
            | (refine dow_st (by repeat (first | exact upd_same _ _ _ | assumption | refine upd_get (by omega) ?_)) (by first | (simp only [cellsA]; rfl) | rfl) rfl (by first | (simp; done) | exact Nat.le_refl _) rfl (by first | exact splice_all rfl | (simp only [splice, List.take_succ_cons, List.take_zero, List.drop_succ_cons, List.drop_zero, List.length_cons, List.length_nil, List.cons_append, List.nil_append, Nat.reduceAdd, Nat.zero_add, Nat.add_zero]; rfl)) (by simp only [meets, and_true]; (try (repeat' apply And.intro)); all_goals (intro z; simp only [fp_d, fp_f, List.mem_cons, List.not_mem_nil, or_false, false_or, not_false_eq_true, true_and, and_true, Bool.false_eq_true, false_and, not_or]; omega)) ?_)
            | (refine dgw_run ?_)
            | (refine dgw_tf ?_)
            | (refine dgw_ft ?_)
            | (refine dgw_un ?_))
          have e : allR L H (8 * i + (j + 1)) = allR L H (8 * i + j) ++ [[.int .i64 ((i : Nat) : Int), .int .i64 ((j : Nat) : Int)]] := by
            rw [← Nat.add_assoc, allR_succ, ← hpl]; simp [hr, hH]
          refine ⟨8 - (j + 1), by omega, _, n2 + 1 + 1 + 1, j + 1, rfl, g0, g1, g16, g17, g6, g26, rfl, ?_, by omega, rfl, ?_⟩
          · rw [e, List.length_append]; rfl
          · rw [e]
            refine ⟨appH_good (x0 := n2 + 1 + 1) (by repeat (first | exact Good.mono (by assumption) (by omega) | (refine Good.upd ?_ (by omega) (by first | rfl | (refine belowL_mono ?_ _ (by assumption); omega) | (simp [belowB, belowL, below]; (try omega)))))) (fun hne => ?_) ?_, by omega, fun x hx => ?_, fun _ => ⟨by omega, by omega, appH_new⟩⟩
            · obtain ⟨a1, a2, a3⟩ := hG.at_ hne
              repeat (first | exact a3 | refine upd_get (by omega) ?_)
            · exact upd_same _ _ _
            · rw [appH_old (by omega) (fun hne => by have := (hG.at_ hne).1; omega)]
              repeat (first | exact old2 x hx | refine upd_get (by omega) ?_)
    · repeat (first
        | (refine cw_t ?_)
        | (refine cw_f ?_)
        | (refine gw_run ?_)
        | (refine gw_tf ?_)
        | (refine gw_ft ?_)
        | (refine gw_un ?_)
        | (refine ow_pick_t ?_)
        | (refine ow_pick_f ?_)
        | (refine ow_new ?_)
        | (refine ow_nck_p ?_)
        | (refine ow_nck_i ?_)
        | (refine ow_nck_f ?_)
        | (refine ow_mki ?_)
        | (refine ow_fa rfl ?_)
        | (refine ow_ext rfl ?_)
        | (refine ow_not rfl ?_)
        | (refine ow_peq_pn rfl ?_)
        | (refine ow_peq_nn rfl ?_)
        | (refine ow_peq_np rfl ?_)
        | (refine ow_ieq_in rfl ?_)
        | (refine ow_ieq_nn rfl ?_)
        | (refine ow_ieq_ni rfl ?_)
        | (refine ow_mkf rfl rfl ?_)
        | (refine ow_box (by first | (simp only [cellsA]; rfl) | rfl) ?_)
        | (refine ow_len rfl ?_)
        | (refine ow_lss_t (by omega) ?_)
        | (refine ow_lss_f (by omega) ?_)
        | (refine ow_leq_t (by omega) ?_)
        | (refine ow_leq_f (by omega) ?_)
        | (refine ow_gtr_t (by omega) ?_)
        | (refine ow_gtr_f (by omega) ?_)
        | (refine ow_geq_t (by omega) ?_)
        | (refine ow_geq_f (by omega) ?_)
        | (refine ow_eql_t (by omega) ?_)
        | (refine ow_eql_f (by omega) ?_)
        | (refine ow_neq_t (by omega) ?_)
        | (refine ow_neq_f (by omega) ?_)
        | (refine ow_add_i rfl (by omega) (by omega) ?_)
        | (refine ow_sub_i rfl (by omega) (by omega) ?_)
        | (refine ow_conv_i (by omega) (by omega) ?_)
        | (refine ow_conv_u (by omega) (by omega) ?_)
        | (refine ow_iaA (by omega) (by omega) rfl ?_)
        | (refine ow_iaS (by omega) (by omega) rfl ?_)
        | (refine ow_ld (by repeat (first | exact upd_same _ _ _ | assumption | refine upd_get (by omega) ?_)) (by first | exact part_all rfl | rfl | (simp only [partA, if_true, List.drop_succ_cons, List.drop_zero, List.take_succ_cons, List.take_zero, List.length_cons, List.length_nil, Nat.reduceAdd, Nat.zero_add]; rfl)) ?_)
        | (refine ow_st (by repeat (first | exact upd_same _ _ _ | assumption | refine upd_get (by omega) ?_)) (by first | (simp only [cellsA]; rfl) | rfl) rfl (by first | (simp; done) | exact Nat.le_refl _) rfl (by first | exact splice_all rfl | (simp only [splice, List.take_succ_cons, List.take_zero, List.drop_succ_cons, List.drop_zero, List.length_cons, List.length_nil, List.cons_append, List.nil_append, Nat.reduceAdd, Nat.zero_add, Nat.add_zero]; rfl)) ?_)
        | (refine ow_build (by simp only [repl, List.append_nil, fillA, List.map, ev, cellsA, splice, List.take_succ_cons, List.take_zero, List.drop_succ_cons, List.drop_zero, List.length_cons, List.length_nil, List.cons_append, List.nil_append, Nat.reduceAdd, Nat.zero_add, Nat.add_zero, true_and, and_self, if_true, Nat.reduceLeDiff, Nat.le_refl]; rfl) ?_)
        | (refine ow_bsl (by simp only [repl, List.append_nil, fillA, List.map, ev, cellsA, splice, List.take_succ_cons, List.take_zero, List.drop_succ_cons, List.drop_zero, List.length_cons, List.length_nil, List.cons_append, List.nil_append, Nat.reduceAdd, Nat.zero_add, Nat.add_zero, true_and, and_self, if_true, Nat.reduceLeDiff, Nat.le_refl]; rfl) ?_)
        | (refine ldR_of (by repeat (first | exact upd_same _ _ _ | assumption | refine upd_get (by omega) ?_)) (by first | exact part_all rfl | rfl | (simp only [partA, if_true, List.drop_succ_cons, List.drop_zero, List.take_succ_cons, List.take_zero, List.length_cons, List.length_nil, Nat.reduceAdd, Nat.zero_add]; rfl)) ?_)
        | (refine dow_ld (by repeat (first | exact upd_same _ _ _ | assumption | refine upd_get (by omega) ?_)) (by first | exact part_all rfl | rfl | (simp only [partA, if_true, List.drop_succ_cons, List.drop_zero, List.take_succ_cons, List.take_zero, List.length_cons, List.length_nil, Nat.reduceAdd, Nat.zero_add]; rfl)) (by simp only [meets, and_true]; (try (repeat' apply And.intro)); all_goals (intro z; simp only [fp_d, fp_f, List.mem_cons, List.not_mem_nil, or_false, false_or, not_false_eq_true, true_and, and_true, Bool.false_eq_true, false_and, not_or]; omega)) ?_)
        | (refine dow_new (by simp only [meets, and_true]; (try (repeat' apply And.intro)); all_goals (intro z; simp only [fp_d, fp_f, List.mem_cons, List.not_mem_nil, or_false, false_or, not_false_eq_true, true_and, and_true, Bool.false_eq_true, false_and, not_or]; omega)) ?_)
        | (refine dow_box (by first | (simp only [cellsA]; rfl) | rfl) (by simp only [meets, and_true]; (try (repeat' apply And.intro)); all_goals (intro z; simp only [fp_d, fp_f, List.mem_cons, List.not_mem_nil, or_false, false_or, not_false_eq_true, true_and, and_true, Bool.false_eq_true, false_and, not_or]; omega)) ?_)
        | (refine dow_st (by repeat (first | exact upd_same _ _ _ | assumption | refine upd_get (by omega) ?_)) (by first | (simp only [cellsA]; rfl) | rfl) rfl (by first | (simp; done) | exact Nat.le_refl _) rfl (by first | exact splice_all rfl | (simp only [splice, List.take_succ_cons, List.take_zero, List.drop_succ_cons, List.drop_zero, List.length_cons, List.length_nil, List.cons_append, List.nil_append, Nat.reduceAdd, Nat.zero_add, Nat.add_zero]; rfl)) (by simp only [meets, and_true]; (try (repeat' apply And.intro)); all_goals (intro z; simp only [fp_d, fp_f, List.mem_cons, List.not_mem_nil, or_false, false_or, not_false_eq_true, true_and, and_true, Bool.false_eq_true, false_and, not_or]; omega)) ?_)
        | (refine dgw_run ?_)
        | (refine dgw_tf ?_)
        | (refine dgw_ft ?_)
        | (refine dgw_un ?_))
      rw [loopK_exit, X120_1_2_eq]
      unfold X120_1_2
      show opW _ (.bin .add (.c (gg 17)) _) _ _ _
      rw [g17]
      repeat (first
        | (refine cw_t ?_)
        | (refine cw_f ?_)
        | (refine gw_run ?_)
        | (refine gw_tf ?_)
        | (refine gw_ft ?_)
        | (refine gw_un ?_)
        | (refine ow_pick_t ?_)
        | (refine ow_pick_f ?_)
        | (refine ow_new ?_)
        | (refine ow_nck_p ?_)
        | (refine ow_nck_i ?_)
        | (refine ow_nck_f ?_)
        | (refine ow_mki ?_)
        | (refine ow_fa rfl ?_)
        | (refine ow_ext rfl ?_)
        | (refine ow_not rfl ?_)
        | (refine ow_peq_pn rfl ?_)
        | (refine ow_peq_nn rfl ?_)
        | (refine ow_peq_np rfl ?_)
        | (refine ow_ieq_in rfl ?_)
        | (refine ow_ieq_nn rfl ?_)
        | (refine ow_ieq_ni rfl ?_)
        | (refine ow_mkf rfl rfl ?_)
        | (refine ow_box (by first | (simp only [cellsA]; rfl) | rfl) ?_)
        | (refine ow_len rfl ?_)
        | (refine ow_lss_t (by omega) ?_)
        | (refine ow_lss_f (by omega) ?_)
        | (refine ow_leq_t (by omega) ?_)
        | (refine ow_leq_f (by omega) ?_)
        | (refine ow_gtr_t (by omega) ?_)
        | (refine ow_gtr_f (by omega) ?_)
        | (refine ow_geq_t (by omega) ?_)
        | (refine ow_geq_f (by omega) ?_)
        | (refine ow_eql_t (by omega) ?_)
        | (refine ow_eql_f (by omega) ?_)
        | (refine ow_neq_t (by omega) ?_)
        | (refine ow_neq_f (by omega) ?_)
        | (refine ow_add_i rfl (by omega) (by omega) ?_)
        | (refine ow_sub_i rfl (by omega) (by omega) ?_)
        | (refine ow_conv_i (by omega) (by omega) ?_)
        | (refine ow_conv_u (by omega) (by omega) ?_)
        | (refine ow_iaA (by omega) (by omega) rfl ?_)
        | (refine ow_iaS (by omega) (by omega) rfl ?_)
        | (refine ow_ld (by repeat (first | exact upd_same _ _ _ | assumption | refine upd_get (by omega) ?_)) (by first | exact part_all rfl | rfl | (simp only [partA, if_true, List.drop_succ_cons, List.drop_zero, List.take_succ_cons, List.take_zero, List.length_cons, List.length_nil, Nat.reduceAdd, Nat.zero_add]; rfl)) ?_)
        | (refine ow_st (by repeat (first | exact upd_same _ _ _ | assumption | refine upd_get (by omega) ?_)) (by first | (simp only [cellsA]; rfl) | rfl) rfl (by first | (simp; done) | exact Nat.le_refl _) rfl (by first | exact splice_all rfl | (simp only [splice, List.take_succ_cons, List.take_zero, List.drop_succ_cons, List.drop_zero, List.length_cons, List.length_nil, List.cons_append, List.nil_append, Nat.reduceAdd, Nat.zero_add, Nat.add_zero]; rfl)) ?_)
        | (refine ow_build (by simp only [repl, List.append_nil, fillA, List.map, ev, cellsA, splice, List.take_succ_cons, List.take_zero, List.drop_succ_cons, List.drop_zero, List.length_cons, List.length_nil, List.cons_append, List.nil_append, Nat.reduceAdd, Nat.zero_add, Nat.add_zero, true_and, and_self, if_true, Nat.reduceLeDiff, Nat.le_refl]; rfl) ?_)
        | (refine ow_bsl (by simp only [repl, List.append_nil, fillA, List.map, ev, cellsA, splice, List.take_succ_cons, List.take_zero, List.drop_succ_cons, List.drop_zero, List.length_cons, List.length_nil, List.cons_append, List.nil_append, Nat.reduceAdd, Nat.zero_add, Nat.add_zero, true_and, and_self, if_true, Nat.reduceLeDiff, Nat.le_refl]; rfl) ?_)
        | (refine ldR_of (by repeat (first | exact upd_same _ _ _ | assumption | refine upd_get (by omega) ?_)) (by first | exact part_all rfl | rfl | (simp only [partA, if_true, List.drop_succ_cons, List.drop_zero, List.take_succ_cons, List.take_zero, List.length_cons, List.length_nil, Nat.reduceAdd, Nat.zero_add]; rfl)) ?_)
        | (refine dow_ld (by repeat (first | exact upd_same _ _ _ | assumption | refine upd_get (by omega) ?_)) (by first | exact part_all rfl | rfl | (simp only [partA, if_true, List.drop_succ_cons, List.drop_zero, List.take_succ_cons, List.take_zero, List.length_cons, List.length_nil, Nat.reduceAdd, Nat.zero_add]; rfl)) (by simp only [meets, and_true]; (try (repeat' apply And.intro)); all_goals (intro z; simp only [fp_d, fp_f, List.mem_cons, List.not_mem_nil, or_false, false_or, not_false_eq_true, true_and, and_true, Bool.false_eq_true, false_and, not_or]; omega)) ?_)
        | (refine dow_new (by simp only [meets, and_true]; (try (repeat' apply And.intro)); all_goals (intro z; simp only [fp_d, fp_f, List.mem_cons, List.not_mem_nil, or_false, false_or, not_false_eq_true, true_and, and_true, Bool.false_eq_true, false_and, not_or]; omega)) ?_)
        | (refine dow_box (by first | (simp only [cellsA]; rfl) | rfl) (by simp only [meets, and_true]; (try (repeat' apply And.intro)); all_goals (intro z; simp only [fp_d, fp_f, List.mem_cons, List.not_mem_nil, or_false, false_or, not_false_eq_true, true_and, and_true, Bool.false_eq_true, false_and, not_or]; omega)) ?_)
        | (refine dow_st (by repeat (first | exact upd_same _ _ _ | assumption | refine upd_get (by omega) ?_)) (by first | (simp only [cellsA]; rfl) | rfl) rfl (by first | (simp; done) | exact Nat.le_refl _) rfl (by first | exact splice_all rfl | (simp only [splice, List.take_succ_cons, List.take_zero, List.drop_succ_cons, List.drop_zero, List.length_cons, List.length_nil, List.cons_append, List.nil_append, Nat.reduceAdd, Nat.zero_add, Nat.add_zero]; rfl)) (by simp only [meets, and_true]; (try (repeat' apply And.intro)); all_goals (intro z; simp only [fp_d, fp_f, List.mem_cons, List.not_mem_nil, or_false, false_or, not_false_eq_true, true_and, and_true, Bool.false_eq_true, false_and, not_or]; omega)) ?_)
        | (refine dgw_run ?_)
        | (refine dgw_tf ?_)
        | (refine dgw_ft ?_)
        | (refine dgw_un ?_))
      have hj8 : j = 8 := by omega
      subst hj8
      exact ⟨E - (i + 1), by omega, _, b, i + 1, rfl, g0, g1, g16, rfl, g5, by omega, rfl, hG⟩
  · repeat (first
      | (refine cw_t ?_)
      | (refine cw_f ?_)
      | (refine gw_run ?_)
      | (refine gw_tf ?_)
      | (refine gw_ft ?_)
      | (refine gw_un ?_)
      | (refine ow_pick_t ?_)
      | (refine ow_pick_f ?_)
      | (refine ow_new ?_)
      | (refine ow_nck_p ?_)
      | (refine ow_nck_i ?_)
      | (refine ow_nck_f ?_)
      | (refine ow_mki ?_)
      | (refine ow_fa rfl ?_)
      | (refine ow_ext rfl ?_)
      | (refine ow_not rfl ?_)
      | (refine ow_peq_pn rfl ?_)
      | (refine ow_peq_nn rfl ?_)
      | (refine ow_peq_np rfl ?_)
      | (refine ow_ieq_in rfl ?_)
      | (refine ow_ieq_nn rfl ?_)
      | (refine ow_ieq_ni rfl ?_)
      | (refine ow_mkf rfl rfl ?_)
      | (refine ow_box (by first | (simp only [cellsA]; rfl) | rfl) ?_)
      | (refine ow_len rfl ?_)
      | (refine ow_lss_t (by omega) ?_)
      | (refine ow_lss_f (by omega) ?_)
      | (refine ow_leq_t (by omega) ?_)
      | (refine ow_leq_f (by omega) ?_)
      | (refine ow_gtr_t (by omega) ?_)
      | (refine ow_gtr_f (by omega) ?_)
      | (refine ow_geq_t (by omega) ?_)
      | (refine ow_geq_f (by omega) ?_)
      | (refine ow_eql_t (by omega) ?_)
      | (refine ow_eql_f (by omega) ?_)
      | (refine ow_neq_t (by omega) ?_)
      | (refine ow_neq_f (by omega) ?_)
      | (refine ow_add_i rfl (by omega) (by omega) ?_)
      | (refine ow_sub_i rfl (by omega) (by omega) ?_)
      | (refine ow_conv_i (by omega) (by omega) ?_)
      | (refine ow_conv_u (by omega) (by omega) ?_)
      | (refine ow_iaA (by omega) (by omega) rfl ?_)
      | (refine ow_iaS (by omega) (by omega) rfl ?_)
      | (refine ow_ld (by repeat (first | exact upd_same _ _ _ | assumption | refine upd_get (by omega) ?_)) (by first | exact part_all rfl | rfl | (simp only [partA, if_true, List.drop_succ_cons, List.drop_zero, List.take_succ_cons, List.take_zero, List.length_cons, List.length_nil, Nat.reduceAdd, Nat.zero_add]; rfl)) ?_)
      | (refine ow_st (by repeat (first | exact upd_same _ _ _ | assumption | refine upd_get (by omega) ?_)) (by first | (simp only [cellsA]; rfl) | rfl) rfl (by first | (simp; done) | exact Nat.le_refl _) rfl (by first | exact splice_all rfl | (simp only [splice, List.take_succ_cons, List.take_zero, List.drop_succ_cons, List.drop_zero, List.length_cons, List.length_nil, List.cons_append, List.nil_append, Nat.reduceAdd, Nat.zero_add, Nat.add_zero]; rfl)) ?_)
      | (refine ow_build (by simp only [repl, List.append_nil, fillA, List.map, ev, cellsA, splice, List.take_succ_cons, List.take_zero, List.drop_succ_cons, List.drop_zero, List.length_cons, List.length_nil, List.cons_append, List.nil_append, Nat.reduceAdd, Nat.zero_add, Nat.add_zero, true_and, and_self, if_true, Nat.reduceLeDiff, Nat.le_refl]; rfl) ?_)
      | (refine ow_bsl (by simp only [repl, List.append_nil, fillA, List.map, ev, cellsA, splice, List.take_succ_cons, List.take_zero, List.drop_succ_cons, List.drop_zero, List.length_cons, List.length_nil, List.cons_append, List.nil_append, Nat.reduceAdd, Nat.zero_add, Nat.add_zero, true_and, and_self, if_true, Nat.reduceLeDiff, Nat.le_refl]; rfl) ?_)
      | (refine ldR_of (by repeat (first | exact upd_same _ _ _ | assumption | refine upd_get (by omega) ?_)) (by first | exact part_all rfl | rfl | (simp only [partA, if_true, List.drop_succ_cons, List.drop_zero, List.take_succ_cons, List.take_zero, List.length_cons, List.length_nil, Nat.reduceAdd, Nat.zero_add]; rfl)) ?_)
      | (refine dow_ld (by repeat (first | exact upd_same _ _ _ | assumption | refine upd_get (by omega) ?_)) (by first | exact part_all rfl | rfl | (simp only [partA, if_true, List.drop_succ_cons, List.drop_zero, List.take_succ_cons, List.take_zero, List.length_cons, List.length_nil, Nat.reduceAdd, Nat.zero_add]; rfl)) (by simp only [meets, and_true]; (try (repeat' apply And.intro)); all_goals (intro z; simp only [fp_d, fp_f, List.mem_cons, List.not_mem_nil, or_false, false_or, not_false_eq_true, true_and, and_true, Bool.false_eq_true, false_and, not_or]; omega)) ?_)
      | (refine dow_new (by simp only [meets, and_true]; (try (repeat' apply And.intro)); all_goals (intro z; simp only [fp_d, fp_f, List.mem_cons, List.not_mem_nil, or_false, false_or, not_false_eq_true, true_and, and_true, Bool.false_eq_true, false_and, not_or]; omega)) ?_)
      | (refine dow_box (by first | (simp only [cellsA]; rfl) | rfl) (by simp only [meets, and_true]; (try (repeat' apply And.intro)); all_goals (intro z; simp only [fp_d, fp_f, List.mem_cons, List.not_mem_nil, or_false, false_or, not_false_eq_true, true_and, and_true, Bool.false_eq_true, false_and, not_or]; omega)) ?_)
      | (refine dow_st (by repeat (first | exact upd_same _ _ _ | assumption | refine upd_get (by omega) ?_)) (by first | (simp only [cellsA]; rfl) | rfl) rfl (by first | (simp; done) | exact Nat.le_refl _) rfl (by first | exact splice_all rfl | (simp only [splice, List.take_succ_cons, List.take_zero, List.drop_succ_cons, List.drop_zero, List.length_cons, List.length_nil, List.cons_append, List.nil_append, Nat.reduceAdd, Nat.zero_add, Nat.add_zero]; rfl)) (by simp only [meets, and_true]; (try (repeat' apply And.intro)); all_goals (intro z; simp only [fp_d, fp_f, List.mem_cons, List.not_mem_nil, or_false, false_or, not_false_eq_true, true_and, and_true, Bool.false_eq_true, false_and, not_or]; omega)) ?_)
      | (refine dgw_run ?_)
      | (refine dgw_tf ?_)
      | (refine dgw_ft ?_)
      | (refine dgw_un ?_))
    rw [loopK_exit, X120_0_0_eq]
    have hiE : i = E := by omega
    subst hiE
    exact ⟨b, g5, hG⟩
end Go.Proofs.As0
/- Contracts: a tree of capabilities: what is below, of a frame, taken out. -/
namespace Go.Proofs.As0
open Go Go.Eng
attribute [local irreducible] opW callW cvW invW grdW cndW ldR dopW dcallW dcvW dgrdW loopW

theorem flatten_enc {α : Type} (row : α → List AV) (d : α) : ∀ l : List α, (l.map row).flatten = enc row l.length fun i => l.getD i d := by
  intro l
  have : (List.range l.length).map (fun i => l.getD i d) = l := by
    refine List.ext_getElem? fun i => ?_
    by_cases hi : i < l.length
    · simp [hi, List.getD_eq_getElem?_getD]
    · rw [List.getElem?_eq_none (by simpa using hi), List.getElem?_eq_none (by omega)]
  rw [enc, List.flatMap_def]
  conv => lhs; rw [← this]
  rw [List.map_map]
  rfl

theorem placeRow_len (q : Nat) : (placeRow q).length = 2 := rfl

/-- The closures. -/
theorem ofC_ev {h : Heap} {n c0 : Nat} (g : Good n h) {fr : Int} (h0 : h c0 = some (.cells 0 [.int .i64 fr])) (p : List AV) (hp : belowL n p = true) (c : Cap) (m : Nat) :
    FEv Tryz.prog 127 [.agg p, .agg c.row, .ptr c0 0] h m (.bool (decide (c.f = fr))) h m := by
  have l0 := g.lt h0
  refine fev_same g (by rw [glob4]; omega) (by simp [belowL, below, Cap.row, hp]; exact l0) (by simp [below]) (W127_ok ?_) m
  unfold W127
  repeat' (first
    | (refine cw_t ?_)
    | (refine cw_f ?_)
    | (refine gw_run ?_)
    | (refine gw_tf ?_)
    | (refine gw_ft ?_)
    | (refine gw_un ?_)
    | (refine ow_pick_t ?_)
    | (refine ow_pick_f ?_)
    | (refine ow_new ?_)
    | (refine ow_nck_p ?_)
    | (refine ow_nck_i ?_)
    | (refine ow_nck_f ?_)
    | (refine ow_mki ?_)
    | (refine ow_fa rfl ?_)
    | (refine ow_ext rfl ?_)
    | (refine ow_not rfl ?_)
    | (refine ow_peq_pn rfl ?_)
    | (refine ow_peq_nn rfl ?_)
    | (refine ow_peq_np rfl ?_)
    | (refine ow_ieq_in rfl ?_)
    | (refine ow_ieq_nn rfl ?_)
    | (refine ow_ieq_ni rfl ?_)
    | (refine ow_mkf rfl rfl ?_)
    | (refine ow_box (by first | (simp only [cellsA]; rfl) | rfl) ?_)
    | (refine ow_len rfl ?_)
    | (refine ow_lss_t (by omega) ?_)
    | (refine ow_lss_f (by omega) ?_)
    | (refine ow_leq_t (by omega) ?_)
    | (refine ow_leq_f (by omega) ?_)
    | (refine ow_gtr_t (by omega) ?_)
    | (refine ow_gtr_f (by omega) ?_)
    | (refine ow_geq_t (by omega) ?_)
    | (refine ow_geq_f (by omega) ?_)
    | (refine ow_eql_t (by omega) ?_)
    | (refine ow_eql_f (by omega) ?_)
    | (refine ow_neq_t (by omega) ?_)
    | (refine ow_neq_f (by omega) ?_)
    | (refine ow_add_i rfl (by omega) (by omega) ?_)
    | (refine ow_sub_i rfl (by omega) (by omega) ?_)
    | (refine ow_conv_i (by omega) (by omega) ?_)
    | (refine ow_conv_u (by omega) (by omega) ?_)
    | (refine ow_iaA (by omega) (by omega) rfl ?_)
    | (refine ow_iaS (by omega) (by omega) rfl ?_)
    | (refine ow_ld (by repeat (first | exact upd_same _ _ _ | assumption | refine upd_get (by omega) ?_)) (by first | exact part_all rfl | rfl | (simp only [partA, if_true, List.drop_succ_cons, List.drop_zero, List.take_succ_cons, List.take_zero, List.length_cons, List.length_nil, Nat.reduceAdd, Nat.zero_add]; rfl)) ?_)
    | (refine ow_st (by repeat (first | exact upd_same _ _ _ | assumption | refine upd_get (by omega) ?_)) (by first | (simp only [cellsA]; rfl) | rfl) rfl (by first | (simp; done) | exact Nat.le_refl _) rfl (by first | exact splice_all rfl | (simp only [splice, List.take_succ_cons, List.take_zero, List.drop_succ_cons, List.drop_zero, List.length_cons, List.length_nil, List.cons_append, List.nil_append, Nat.reduceAdd, Nat.zero_add, Nat.add_zero]; rfl)) ?_)
    | (refine ow_build (by simp only [repl, List.append_nil, fillA, List.map, ev, cellsA, splice, List.take_succ_cons, List.take_zero, List.drop_succ_cons, List.drop_zero, List.length_cons, List.length_nil, List.cons_append, List.nil_append, Nat.reduceAdd, Nat.zero_add, Nat.add_zero, true_and, and_self, if_true, Nat.reduceLeDiff, Nat.le_refl]; rfl) ?_)
    | (refine ow_bsl (by simp only [repl, List.append_nil, fillA, List.map, ev, cellsA, splice, List.take_succ_cons, List.take_zero, List.drop_succ_cons, List.drop_zero, List.length_cons, List.length_nil, List.cons_append, List.nil_append, Nat.reduceAdd, Nat.zero_add, Nat.add_zero, true_and, and_self, if_true, Nat.reduceLeDiff, Nat.le_refl]; rfl) ?_)
    | (refine ldR_of (by repeat (first | exact upd_same _ _ _ | assumption | refine upd_get (by omega) ?_)) (by first | exact part_all rfl | rfl | (simp only [partA, if_true, List.drop_succ_cons, List.drop_zero, List.take_succ_cons, List.take_zero, List.length_cons, List.length_nil, Nat.reduceAdd, Nat.zero_add]; rfl)) ?_)
    | (refine dow_ld (by repeat (first | exact upd_same _ _ _ | assumption | refine upd_get (by omega) ?_)) (by first | exact part_all rfl | rfl | (simp only [partA, if_true, List.drop_succ_cons, List.drop_zero, List.take_succ_cons, List.take_zero, List.length_cons, List.length_nil, Nat.reduceAdd, Nat.zero_add]; rfl)) (by simp only [meets, and_true]; (try (repeat' apply And.intro)); all_goals (intro z; simp only [fp_d, fp_f, List.mem_cons, List.not_mem_nil, or_false, false_or, not_false_eq_true, true_and, and_true, Bool.false_eq_true, false_and, not_or]; omega)) ?_)
    | (refine dow_new (by simp only [meets, and_true]; (try (repeat' apply And.intro)); all_goals (intro z; simp only [fp_d, fp_f, List.mem_cons, List.not_mem_nil, or_false, false_or, not_false_eq_true, true_and, and_true, Bool.false_eq_true, false_and, not_or]; omega)) ?_)
    | (refine dow_box (by first | (simp only [cellsA]; rfl) | rfl) (by simp only [meets, and_true]; (try (repeat' apply And.intro)); all_goals (intro z; simp only [fp_d, fp_f, List.mem_cons, List.not_mem_nil, or_false, false_or, not_false_eq_true, true_and, and_true, Bool.false_eq_true, false_and, not_or]; omega)) ?_)
    | (refine dow_st (by repeat (first | exact upd_same _ _ _ | assumption | refine upd_get (by omega) ?_)) (by first | (simp only [cellsA]; rfl) | rfl) rfl (by first | (simp; done) | exact Nat.le_refl _) rfl (by first | exact splice_all rfl | (simp only [splice, List.take_succ_cons, List.take_zero, List.drop_succ_cons, List.drop_zero, List.length_cons, List.length_nil, List.cons_append, List.nil_append, Nat.reduceAdd, Nat.zero_add, Nat.add_zero]; rfl)) (by simp only [meets, and_true]; (try (repeat' apply And.intro)); all_goals (intro z; simp only [fp_d, fp_f, List.mem_cons, List.not_mem_nil, or_false, false_or, not_false_eq_true, true_and, and_true, Bool.false_eq_true, false_and, not_or]; omega)) ?_)
    | (refine dgw_run ?_)
    | (refine dgw_tf ?_)
    | (refine dgw_ft ?_)
    | (refine dgw_un ?_)
    | (refine ow_lss (fun _ => ?_) (fun _ => ?_))
    | (refine ow_leq (fun _ => ?_) (fun _ => ?_))
    | (refine ow_gtr (fun _ => ?_) (fun _ => ?_))
    | (refine ow_geq (fun _ => ?_) (fun _ => ?_))
    | (refine ow_eql (fun _ => ?_) (fun _ => ?_))
    | (refine ow_neq (fun _ => ?_) (fun _ => ?_)))
  all_goals exact ⟨by simp [*], fun x hx => by repeat (first | rfl | refine upd_get (by omega) ?_)⟩

theorem belowC_ev {t B E : Nat} {L : Nat → Cap} {ρ : Nat → Nat} {h : Heap} {n c3 c4 c5 : Nat} (g : Good n h) (T : TreeAt h t B E L) (R : Ranked E L ρ) {pe ps : Int}
    (h3 : h c3 = some (.cells 0 [.ptr t 0])) (h4 : h c4 = some (.cells 0 [.int .i64 pe])) (h5 : h c5 = some (.cells 0 [.int .i64 ps])) (p : List AV) (hp : belowL n p = true) {q : Nat} (hq : q < 8 * E) (m : Nat) :
    FEv Tryz.prog 125 [.agg p, .agg (L q).row, .ptr c3 0, .ptr c4 0, .ptr c5 0] h m (.bool (undN 32 L (L q) pe ps)) h m := by
  have l3 := g.lt h3
  have l4 := g.lt h4
  have l5 := g.lt h5
  refine fev_same g (by rw [glob4]; omega) (by simp [belowL, below, Cap.row, hp]; omega) (by simp [below]) (W125_ok ?_) m
  unfold W125
  repeat (first
    | (refine ow_box (cs := p) rfl ?_)
    | (refine cal (under_ev (n := n + 1 + 1) (by repeat (first | exact Good.mono (by assumption) (by omega) | (refine Good.upd ?_ (by omega) (by first | rfl | (refine belowL_mono ?_ _ (by assumption); omega) | (simp [belowB, belowL, below]; (try omega)))))) (T.keep g fun x hx => by repeat (first | rfl | refine upd_get (by omega) ?_)) R hq _ _ _) ?_)
    | (refine cw_t ?_)
    | (refine cw_f ?_)
    | (refine gw_run ?_)
    | (refine gw_tf ?_)
    | (refine gw_ft ?_)
    | (refine gw_un ?_)
    | (refine ow_pick_t ?_)
    | (refine ow_pick_f ?_)
    | (refine ow_new ?_)
    | (refine ow_nck_p ?_)
    | (refine ow_nck_i ?_)
    | (refine ow_nck_f ?_)
    | (refine ow_mki ?_)
    | (refine ow_fa rfl ?_)
    | (refine ow_ext rfl ?_)
    | (refine ow_not rfl ?_)
    | (refine ow_peq_pn rfl ?_)
    | (refine ow_peq_nn rfl ?_)
    | (refine ow_peq_np rfl ?_)
    | (refine ow_ieq_in rfl ?_)
    | (refine ow_ieq_nn rfl ?_)
    | (refine ow_ieq_ni rfl ?_)
    | (refine ow_mkf rfl rfl ?_)
    | (refine ow_box (by first | (simp only [cellsA]; rfl) | rfl) ?_)
    | (refine ow_len rfl ?_)
    | (refine ow_lss_t (by omega) ?_)
    | (refine ow_lss_f (by omega) ?_)
    | (refine ow_leq_t (by omega) ?_)
    | (refine ow_leq_f (by omega) ?_)
    | (refine ow_gtr_t (by omega) ?_)
    | (refine ow_gtr_f (by omega) ?_)
    | (refine ow_geq_t (by omega) ?_)
    | (refine ow_geq_f (by omega) ?_)
    | (refine ow_eql_t (by omega) ?_)
    | (refine ow_eql_f (by omega) ?_)
    | (refine ow_neq_t (by omega) ?_)
    | (refine ow_neq_f (by omega) ?_)
    | (refine ow_add_i rfl (by omega) (by omega) ?_)
    | (refine ow_sub_i rfl (by omega) (by omega) ?_)
    | (refine ow_conv_i (by omega) (by omega) ?_)
    | (refine ow_conv_u (by omega) (by omega) ?_)
    | (refine ow_iaA (by omega) (by omega) rfl ?_)
    | (refine ow_iaS (by omega) (by omega) rfl ?_)
    | (refine ow_ld (by repeat (first | exact upd_same _ _ _ | assumption | refine upd_get (by omega) ?_)) (by first | exact part_all rfl | rfl | (simp only [partA, if_true, List.drop_succ_cons, List.drop_zero, List.take_succ_cons, List.take_zero, List.length_cons, List.length_nil, Nat.reduceAdd, Nat.zero_add]; rfl)) ?_)
    | (refine ow_st (by repeat (first | exact upd_same _ _ _ | assumption | refine upd_get (by omega) ?_)) (by first | (simp only [cellsA]; rfl) | rfl) rfl (by first | (simp; done) | exact Nat.le_refl _) rfl (by first | exact splice_all rfl | (simp only [splice, List.take_succ_cons, List.take_zero, List.drop_succ_cons, List.drop_zero, List.length_cons, List.length_nil, List.cons_append, List.nil_append, Nat.reduceAdd, Nat.zero_add, Nat.add_zero]; rfl)) ?_)
    | (refine ow_build (by simp only [repl, List.append_nil, fillA, List.map, ev, cellsA, splice, List.take_succ_cons, List.take_zero, List.drop_succ_cons, List.drop_zero, List.length_cons, List.length_nil, List.cons_append, List.nil_append, Nat.reduceAdd, Nat.zero_add, Nat.add_zero, true_and, and_self, if_true, Nat.reduceLeDiff, Nat.le_refl]; rfl) ?_)
    | (refine ow_bsl (by simp only [repl, List.append_nil, fillA, List.map, ev, cellsA, splice, List.take_succ_cons, List.take_zero, List.drop_succ_cons, List.drop_zero, List.length_cons, List.length_nil, List.cons_append, List.nil_append, Nat.reduceAdd, Nat.zero_add, Nat.add_zero, true_and, and_self, if_true, Nat.reduceLeDiff, Nat.le_refl]; rfl) ?_)
    | (refine ldR_of (by repeat (first | exact upd_same _ _ _ | assumption | refine upd_get (by omega) ?_)) (by first | exact part_all rfl | rfl | (simp only [partA, if_true, List.drop_succ_cons, List.drop_zero, List.take_succ_cons, List.take_zero, List.length_cons, List.length_nil, Nat.reduceAdd, Nat.zero_add]; rfl)) ?_)
    | (refine dow_ld (by repeat (first | exact upd_same _ _ _ | assumption | refine upd_get (by omega) ?_)) (by first | exact part_all rfl | rfl | (simp only [partA, if_true, List.drop_succ_cons, List.drop_zero, List.take_succ_cons, List.take_zero, List.length_cons, List.length_nil, Nat.reduceAdd, Nat.zero_add]; rfl)) (by simp only [meets, and_true]; (try (repeat' apply And.intro)); all_goals (intro z; simp only [fp_d, fp_f, List.mem_cons, List.not_mem_nil, or_false, false_or, not_false_eq_true, true_and, and_true, Bool.false_eq_true, false_and, not_or]; omega)) ?_)
    | (refine dow_new (by simp only [meets, and_true]; (try (repeat' apply And.intro)); all_goals (intro z; simp only [fp_d, fp_f, List.mem_cons, List.not_mem_nil, or_false, false_or, not_false_eq_true, true_and, and_true, Bool.false_eq_true, false_and, not_or]; omega)) ?_)
    | (refine dow_box (by first | (simp only [cellsA]; rfl) | rfl) (by simp only [meets, and_true]; (try (repeat' apply And.intro)); all_goals (intro z; simp only [fp_d, fp_f, List.mem_cons, List.not_mem_nil, or_false, false_or, not_false_eq_true, true_and, and_true, Bool.false_eq_true, false_and, not_or]; omega)) ?_)
    | (refine dow_st (by repeat (first | exact upd_same _ _ _ | assumption | refine upd_get (by omega) ?_)) (by first | (simp only [cellsA]; rfl) | rfl) rfl (by first | (simp; done) | exact Nat.le_refl _) rfl (by first | exact splice_all rfl | (simp only [splice, List.take_succ_cons, List.take_zero, List.drop_succ_cons, List.drop_zero, List.length_cons, List.length_nil, List.cons_append, List.nil_append, Nat.reduceAdd, Nat.zero_add, Nat.add_zero]; rfl)) (by simp only [meets, and_true]; (try (repeat' apply And.intro)); all_goals (intro z; simp only [fp_d, fp_f, List.mem_cons, List.not_mem_nil, or_false, false_or, not_false_eq_true, true_and, and_true, Bool.false_eq_true, false_and, not_or]; omega)) ?_)
    | (refine dgw_run ?_)
    | (refine dgw_tf ?_)
    | (refine dgw_ft ?_)
    | (refine dgw_un ?_))
  exact ⟨rfl, fun x hx => by repeat (first | rfl | refine upd_get (by omega) ?_)⟩

theorem dropC_ev {t B E : Nat} {L : Nat → Cap} {ρ : Nat → Nat} {h : Heap} {n c9 c3 : Nat} (g : Good n h) (T : TreeAt h t B E L) (R : Ranked E L ρ) {pe ps : Int}
    (h3 : h c3 = some (.cells 0 [.ptr t 0])) (h9 : h c9 = some (.cells 0 [.int .i64 pe, .int .i64 ps])) {q : Nat} (hq : q < 8 * E) (m : Nat) :
    FEv Tryz.prog 121 [.agg (placeRow q), .agg (L q).row, .ptr c9 0, .ptr c3 0] h m (.bool ((decide (((q / 8 : Nat) : Int) = pe) && decide (((q % 8 : Nat) : Int) = ps)) || undN 32 L (L q) pe ps)) h m := by
  have l3 := g.lt h3
  have l9 := g.lt h9
  refine fev_same g (by rw [glob4]; omega) (by simp [belowL, below, Cap.row, placeRow]; omega) (by simp [below]) (W121_ok ?_) m
  unfold W121
  have heq : eqCells (placeRow q) [.int .i64 pe, .int .i64 ps] = some (decide (((q / 8 : Nat) : Int) = pe) && decide (((q % 8 : Nat) : Int) = ps)) := by
    simp only [placeRow, eqCells, if_true, Option.map_some, Bool.and_true]
    rfl
  cases hb : (decide (((q / 8 : Nat) : Int) = pe) && decide (((q % 8 : Nat) : Int) = ps)) with
  | true =>
    rw [hb] at heq
    repeat (first
      | (refine ow_aeq rfl heq rfl ?_)
      | (refine cal (under_ev (n := n + 1 + 1) (by repeat (first | exact Good.mono (by assumption) (by omega) | (refine Good.upd ?_ (by omega) (by first | rfl | (refine belowL_mono ?_ _ (by assumption); omega) | (simp [belowB, belowL, below]; (try omega)))))) (T.keep g fun x hx => by repeat (first | rfl | refine upd_get (by omega) ?_)) R hq _ _ _) ?_)
      | (refine cw_t ?_)
      | (refine cw_f ?_)
      | (refine gw_run ?_)
      | (refine gw_tf ?_)
      | (refine gw_ft ?_)
      | (refine gw_un ?_)
      | (refine ow_pick_t ?_)
      | (refine ow_pick_f ?_)
      | (refine ow_new ?_)
      | (refine ow_nck_p ?_)
      | (refine ow_nck_i ?_)
      | (refine ow_nck_f ?_)
      | (refine ow_mki ?_)
      | (refine ow_fa rfl ?_)
      | (refine ow_ext rfl ?_)
      | (refine ow_not rfl ?_)
      | (refine ow_peq_pn rfl ?_)
      | (refine ow_peq_nn rfl ?_)
      | (refine ow_peq_np rfl ?_)
      | (refine ow_ieq_in rfl ?_)
      | (refine ow_ieq_nn rfl ?_)
      | (refine ow_ieq_ni rfl ?_)
      | (refine ow_mkf rfl rfl ?_)
      | (refine ow_box (by first | (simp only [cellsA]; rfl) | rfl) ?_)
      | (refine ow_len rfl ?_)
      | (refine ow_lss_t (by omega) ?_)
      | (refine ow_lss_f (by omega) ?_)
      | (refine ow_leq_t (by omega) ?_)
      | (refine ow_leq_f (by omega) ?_)
      | (refine ow_gtr_t (by omega) ?_)
      | (refine ow_gtr_f (by omega) ?_)
      | (refine ow_geq_t (by omega) ?_)
      | (refine ow_geq_f (by omega) ?_)
      | (refine ow_eql_t (by omega) ?_)
      | (refine ow_eql_f (by omega) ?_)
      | (refine ow_neq_t (by omega) ?_)
      | (refine ow_neq_f (by omega) ?_)
      | (refine ow_add_i rfl (by omega) (by omega) ?_)
      | (refine ow_sub_i rfl (by omega) (by omega) ?_)
      | (refine ow_conv_i (by omega) (by omega) ?_)
      | (refine ow_conv_u (by omega) (by omega) ?_)
      | (refine ow_iaA (by omega) (by omega) rfl ?_)
      | (refine ow_iaS (by omega) (by omega) rfl ?_)
      | (refine ow_ld (by repeat (first | exact upd_same _ _ _ | assumption | refine upd_get (by omega) ?_)) (by first | exact part_all rfl | rfl | (simp only [partA, if_true, List.drop_succ_cons, List.drop_zero, List.take_succ_cons, List.take_zero, List.length_cons, List.length_nil, Nat.reduceAdd, Nat.zero_add]; rfl)) ?_)
      | (refine ow_st (by repeat (first | exact upd_same _ _ _ | assumption | refine upd_get (by omega) ?_)) (by first | (simp only [cellsA]; rfl) | rfl) rfl (by first | (simp; done) | exact Nat.le_refl _) rfl (by first | exact splice_all rfl | (simp only [splice, List.take_succ_cons, List.take_zero, List.drop_succ_cons, List.drop_zero, List.length_cons, List.length_nil, List.cons_append, List.nil_append, Nat.reduceAdd, Nat.zero_add, Nat.add_zero]; rfl)) ?_)
      | (refine ow_build (by simp only [repl, List.append_nil, fillA, List.map, ev, cellsA, splice, List.take_succ_cons, List.take_zero, List.drop_succ_cons, List.drop_zero, List.length_cons, List.length_nil, List.cons_append, List.nil_append, Nat.reduceAdd, Nat.zero_add, Nat.add_zero, true_and, and_self, if_true, Nat.reduceLeDiff, Nat.le_refl]; rfl) ?_)
      | (refine ow_bsl (by simp only [repl, List.append_nil, fillA, List.map, ev, cellsA, splice, List.take_succ_cons, List.take_zero, List.drop_succ_cons, List.drop_zero, List.length_cons, List.length_nil, List.cons_append, List.nil_append, Nat.reduceAdd, Nat.zero_add, Nat.add_zero, true_and, and_self, if_true, Nat.reduceLeDiff, Nat.le_refl]; rfl) ?_)
      | (refine ldR_of (by repeat (first | exact upd_same _ _ _ | assumption | refine upd_get (by omega) ?_)) (by first | exact part_all rfl | rfl | (simp only [partA, if_true, List.drop_succ_cons, List.drop_zero, List.take_succ_cons, List.take_zero, List.length_cons, List.length_nil, Nat.reduceAdd, Nat.zero_add]; rfl)) ?_)
      | (refine dow_ld (by repeat (first | exact upd_same _ _ _ | assumption | refine upd_get (by omega) ?_)) (by first | exact part_all rfl | rfl | (simp only [partA, if_true, List.drop_succ_cons, List.drop_zero, List.take_succ_cons, List.take_zero, List.length_cons, List.length_nil, Nat.reduceAdd, Nat.zero_add]; rfl)) (by simp only [meets, and_true]; (try (repeat' apply And.intro)); all_goals (intro z; simp only [fp_d, fp_f, List.mem_cons, List.not_mem_nil, or_false, false_or, not_false_eq_true, true_and, and_true, Bool.false_eq_true, false_and, not_or]; omega)) ?_)
      | (refine dow_new (by simp only [meets, and_true]; (try (repeat' apply And.intro)); all_goals (intro z; simp only [fp_d, fp_f, List.mem_cons, List.not_mem_nil, or_false, false_or, not_false_eq_true, true_and, and_true, Bool.false_eq_true, false_and, not_or]; omega)) ?_)
      | (refine dow_box (by first | (simp only [cellsA]; rfl) | rfl) (by simp only [meets, and_true]; (try (repeat' apply And.intro)); all_goals (intro z; simp only [fp_d, fp_f, List.mem_cons, List.not_mem_nil, or_false, false_or, not_false_eq_true, true_and, and_true, Bool.false_eq_true, false_and, not_or]; omega)) ?_)
      | (refine dow_st (by repeat (first | exact upd_same _ _ _ | assumption | refine upd_get (by omega) ?_)) (by first | (simp only [cellsA]; rfl) | rfl) rfl (by first | (simp; done) | exact Nat.le_refl _) rfl (by first | exact splice_all rfl | (simp only [splice, List.take_succ_cons, List.take_zero, List.drop_succ_cons, List.drop_zero, List.length_cons, List.length_nil, List.cons_append, List.nil_append, Nat.reduceAdd, Nat.zero_add, Nat.add_zero]; rfl)) (by simp only [meets, and_true]; (try (repeat' apply And.intro)); all_goals (intro z; simp only [fp_d, fp_f, List.mem_cons, List.not_mem_nil, or_false, false_or, not_false_eq_true, true_and, and_true, Bool.false_eq_true, false_and, not_or]; omega)) ?_)
      | (refine dgw_run ?_)
      | (refine dgw_tf ?_)
      | (refine dgw_ft ?_)
      | (refine dgw_un ?_))
    exact ⟨rfl, fun x hx => by repeat (first | rfl | refine upd_get (by omega) ?_)⟩
  | false =>
    rw [hb] at heq
    repeat (first
      | (refine ow_aeq rfl heq rfl ?_)
      | (refine cal (under_ev (n := n + 1 + 1) (by repeat (first | exact Good.mono (by assumption) (by omega) | (refine Good.upd ?_ (by omega) (by first | rfl | (refine belowL_mono ?_ _ (by assumption); omega) | (simp [belowB, belowL, below]; (try omega)))))) (T.keep g fun x hx => by repeat (first | rfl | refine upd_get (by omega) ?_)) R hq _ _ _) ?_)
      | (refine cw_t ?_)
      | (refine cw_f ?_)
      | (refine gw_run ?_)
      | (refine gw_tf ?_)
      | (refine gw_ft ?_)
      | (refine gw_un ?_)
      | (refine ow_pick_t ?_)
      | (refine ow_pick_f ?_)
      | (refine ow_new ?_)
      | (refine ow_nck_p ?_)
      | (refine ow_nck_i ?_)
      | (refine ow_nck_f ?_)
      | (refine ow_mki ?_)
      | (refine ow_fa rfl ?_)
      | (refine ow_ext rfl ?_)
      | (refine ow_not rfl ?_)
      | (refine ow_peq_pn rfl ?_)
      | (refine ow_peq_nn rfl ?_)
      | (refine ow_peq_np rfl ?_)
      | (refine ow_ieq_in rfl ?_)
      | (refine ow_ieq_nn rfl ?_)
      | (refine ow_ieq_ni rfl ?_)
      | (refine ow_mkf rfl rfl ?_)
      | (refine ow_box (by first | (simp only [cellsA]; rfl) | rfl) ?_)
      | (refine ow_len rfl ?_)
      | (refine ow_lss_t (by omega) ?_)
      | (refine ow_lss_f (by omega) ?_)
      | (refine ow_leq_t (by omega) ?_)
      | (refine ow_leq_f (by omega) ?_)
      | (refine ow_gtr_t (by omega) ?_)
      | (refine ow_gtr_f (by omega) ?_)
      | (refine ow_geq_t (by omega) ?_)
      | (refine ow_geq_f (by omega) ?_)
      | (refine ow_eql_t (by omega) ?_)
      | (refine ow_eql_f (by omega) ?_)
      | (refine ow_neq_t (by omega) ?_)
      | (refine ow_neq_f (by omega) ?_)
      | (refine ow_add_i rfl (by omega) (by omega) ?_)
      | (refine ow_sub_i rfl (by omega) (by omega) ?_)
      | (refine ow_conv_i (by omega) (by omega) ?_)
      | (refine ow_conv_u (by omega) (by omega) ?_)
      | (refine ow_iaA (by omega) (by omega) rfl ?_)
      | (refine ow_iaS (by omega) (by omega) rfl ?_)
      | (refine ow_ld (by repeat (first | exact upd_same _ _ _ | assumption | refine upd_get (by omega) ?_)) (by first | exact part_all rfl | rfl | (simp only [partA, if_true, List.drop_succ_cons, List.drop_zero, List.take_succ_cons, List.take_zero, List.length_cons, List.length_nil, Nat.reduceAdd, Nat.zero_add]; rfl)) ?_)
      | (refine ow_st (by repeat (first | exact upd_same _ _ _ | assumption | refine upd_get (by omega) ?_)) (by first | (simp only [cellsA]; rfl) | rfl) rfl (by first | (simp; done) | exact Nat.le_refl _) rfl (by first | exact splice_all rfl | (simp only [splice, List.take_succ_cons, List.take_zero, List.drop_succ_cons, List.drop_zero, List.length_cons, List.length_nil, List.cons_append, List.nil_append, Nat.reduceAdd, Nat.zero_add, Nat.add_zero]; rfl)) ?_)
      | (refine ow_build (by simp only [repl, List.append_nil, fillA, List.map, ev, cellsA, splice, List.take_succ_cons, List.take_zero, List.drop_succ_cons, List.drop_zero, List.length_cons, List.length_nil, List.cons_append, List.nil_append, Nat.reduceAdd, Nat.zero_add, Nat.add_zero, true_and, and_self, if_true, Nat.reduceLeDiff, Nat.le_refl]; rfl) ?_)
      | (refine ow_bsl (by simp only [repl, List.append_nil, fillA, List.map, ev, cellsA, splice, List.take_succ_cons, List.take_zero, List.drop_succ_cons, List.drop_zero, List.length_cons, List.length_nil, List.cons_append, List.nil_append, Nat.reduceAdd, Nat.zero_add, Nat.add_zero, true_and, and_self, if_true, Nat.reduceLeDiff, Nat.le_refl]; rfl) ?_)
      | (refine ldR_of (by repeat (first | exact upd_same _ _ _ | assumption | refine upd_get (by omega) ?_)) (by first | exact part_all rfl | rfl | (simp only [partA, if_true, List.drop_succ_cons, List.drop_zero, List.take_succ_cons, List.take_zero, List.length_cons, List.length_nil, Nat.reduceAdd, Nat.zero_add]; rfl)) ?_)
      | (refine dow_ld (by repeat (first | exact upd_same _ _ _ | assumption | refine upd_get (by omega) ?_)) (by first | exact part_all rfl | rfl | (simp only [partA, if_true, List.drop_succ_cons, List.drop_zero, List.take_succ_cons, List.take_zero, List.length_cons, List.length_nil, Nat.reduceAdd, Nat.zero_add]; rfl)) (by simp only [meets, and_true]; (try (repeat' apply And.intro)); all_goals (intro z; simp only [fp_d, fp_f, List.mem_cons, List.not_mem_nil, or_false, false_or, not_false_eq_true, true_and, and_true, Bool.false_eq_true, false_and, not_or]; omega)) ?_)
      | (refine dow_new (by simp only [meets, and_true]; (try (repeat' apply And.intro)); all_goals (intro z; simp only [fp_d, fp_f, List.mem_cons, List.not_mem_nil, or_false, false_or, not_false_eq_true, true_and, and_true, Bool.false_eq_true, false_and, not_or]; omega)) ?_)
      | (refine dow_box (by first | (simp only [cellsA]; rfl) | rfl) (by simp only [meets, and_true]; (try (repeat' apply And.intro)); all_goals (intro z; simp only [fp_d, fp_f, List.mem_cons, List.not_mem_nil, or_false, false_or, not_false_eq_true, true_and, and_true, Bool.false_eq_true, false_and, not_or]; omega)) ?_)
      | (refine dow_st (by repeat (first | exact upd_same _ _ _ | assumption | refine upd_get (by omega) ?_)) (by first | (simp only [cellsA]; rfl) | rfl) rfl (by first | (simp; done) | exact Nat.le_refl _) rfl (by first | exact splice_all rfl | (simp only [splice, List.take_succ_cons, List.take_zero, List.drop_succ_cons, List.drop_zero, List.length_cons, List.length_nil, List.cons_append, List.nil_append, Nat.reduceAdd, Nat.zero_add, Nat.add_zero]; rfl)) (by simp only [meets, and_true]; (try (repeat' apply And.intro)); all_goals (intro z; simp only [fp_d, fp_f, List.mem_cons, List.not_mem_nil, or_false, false_or, not_false_eq_true, true_and, and_true, Bool.false_eq_true, false_and, not_or]; omega)) ?_)
      | (refine dgw_run ?_)
      | (refine dgw_tf ?_)
      | (refine dgw_ft ?_)
      | (refine dgw_un ?_))
    exact ⟨rfl, fun x hx => by repeat (first | rfl | refine upd_get (by omega) ?_)⟩

theorem Grown.from {n n3 n1 b e : Nat} {h h3 h1 : Heap} {rows : List (List AV)} (G : Grown n3 h3 n1 h1 b e rows) (hn : n ≤ n3) (hk : ∀ x, x < n → h3 x = h x) : Grown n h n1 h1 b e rows :=
  ⟨G.good, by have := G.le; omega, fun x hx => by rw [G.old x (by omega), hk x hx], fun hne => by obtain ⟨a1, a2, a3⟩ := G.at_ hne; exact ⟨by omega, a2, a3⟩⟩

/-- Below. -/
def belowH (L : Nat → Cap) (pe ps : Int) (q : Nat) : Bool := undN 32 L (L q) pe ps

theorem below_ev {t B E : Nat} {L : Nat → Cap} {ρ : Nat → Nat} {h : Heap} {n : Nat} (g : Good n h) (T : TreeAt h t B E L) (hE : E ≤ 4) (R : Ranked E L ρ) (pe ps : Int) :
    callW Tryz.prog 56 [.ptr t 0, .int .i64 pe, .int .i64 ps] h n fun v h' n' => ∃ b, v = slV b (allR L (belowH L pe ps) (8 * E)).length ∧ Grown n h n' h' b 2 (allR L (belowH L pe ps) (8 * E)) := by
  have ht := T.t
  have l1 := g.lt ht
  refine W56_ok ?_
  unfold W56
  repeat (first
    | (refine cw_t ?_)
    | (refine cw_f ?_)
    | (refine gw_run ?_)
    | (refine gw_tf ?_)
    | (refine gw_ft ?_)
    | (refine gw_un ?_)
    | (refine ow_pick_t ?_)
    | (refine ow_pick_f ?_)
    | (refine ow_new ?_)
    | (refine ow_nck_p ?_)
    | (refine ow_nck_i ?_)
    | (refine ow_nck_f ?_)
    | (refine ow_mki ?_)
    | (refine ow_fa rfl ?_)
    | (refine ow_ext rfl ?_)
    | (refine ow_not rfl ?_)
    | (refine ow_peq_pn rfl ?_)
    | (refine ow_peq_nn rfl ?_)
    | (refine ow_peq_np rfl ?_)
    | (refine ow_ieq_in rfl ?_)
    | (refine ow_ieq_nn rfl ?_)
    | (refine ow_ieq_ni rfl ?_)
    | (refine ow_mkf rfl rfl ?_)
    | (refine ow_box (by first | (simp only [cellsA]; rfl) | rfl) ?_)
    | (refine ow_len rfl ?_)
    | (refine ow_lss_t (by omega) ?_)
    | (refine ow_lss_f (by omega) ?_)
    | (refine ow_leq_t (by omega) ?_)
    | (refine ow_leq_f (by omega) ?_)
    | (refine ow_gtr_t (by omega) ?_)
    | (refine ow_gtr_f (by omega) ?_)
    | (refine ow_geq_t (by omega) ?_)
    | (refine ow_geq_f (by omega) ?_)
    | (refine ow_eql_t (by omega) ?_)
    | (refine ow_eql_f (by omega) ?_)
    | (refine ow_neq_t (by omega) ?_)
    | (refine ow_neq_f (by omega) ?_)
    | (refine ow_add_i rfl (by omega) (by omega) ?_)
    | (refine ow_sub_i rfl (by omega) (by omega) ?_)
    | (refine ow_conv_i (by omega) (by omega) ?_)
    | (refine ow_conv_u (by omega) (by omega) ?_)
    | (refine ow_iaA (by omega) (by omega) rfl ?_)
    | (refine ow_iaS (by omega) (by omega) rfl ?_)
    | (refine ow_ld (by repeat (first | exact upd_same _ _ _ | assumption | refine upd_get (by omega) ?_)) (by first | exact part_all rfl | rfl | (simp only [partA, if_true, List.drop_succ_cons, List.drop_zero, List.take_succ_cons, List.take_zero, List.length_cons, List.length_nil, Nat.reduceAdd, Nat.zero_add]; rfl)) ?_)
    | (refine ow_st (by repeat (first | exact upd_same _ _ _ | assumption | refine upd_get (by omega) ?_)) (by first | (simp only [cellsA]; rfl) | rfl) rfl (by first | (simp; done) | exact Nat.le_refl _) rfl (by first | exact splice_all rfl | (simp only [splice, List.take_succ_cons, List.take_zero, List.drop_succ_cons, List.drop_zero, List.length_cons, List.length_nil, List.cons_append, List.nil_append, Nat.reduceAdd, Nat.zero_add, Nat.add_zero]; rfl)) ?_)
    | (refine ow_build (by simp only [repl, List.append_nil, fillA, List.map, ev, cellsA, splice, List.take_succ_cons, List.take_zero, List.drop_succ_cons, List.drop_zero, List.length_cons, List.length_nil, List.cons_append, List.nil_append, Nat.reduceAdd, Nat.zero_add, Nat.add_zero, true_and, and_self, if_true, Nat.reduceLeDiff, Nat.le_refl]; rfl) ?_)
    | (refine ow_bsl (by simp only [repl, List.append_nil, fillA, List.map, ev, cellsA, splice, List.take_succ_cons, List.take_zero, List.drop_succ_cons, List.drop_zero, List.length_cons, List.length_nil, List.cons_append, List.nil_append, Nat.reduceAdd, Nat.zero_add, Nat.add_zero, true_and, and_self, if_true, Nat.reduceLeDiff, Nat.le_refl]; rfl) ?_)
    | (refine ldR_of (by repeat (first | exact upd_same _ _ _ | assumption | refine upd_get (by omega) ?_)) (by first | exact part_all rfl | rfl | (simp only [partA, if_true, List.drop_succ_cons, List.drop_zero, List.take_succ_cons, List.take_zero, List.length_cons, List.length_nil, Nat.reduceAdd, Nat.zero_add]; rfl)) ?_)
    | (refine dow_ld (by repeat (first | exact upd_same _ _ _ | assumption | refine upd_get (by omega) ?_)) (by first | exact part_all rfl | rfl | (simp only [partA, if_true, List.drop_succ_cons, List.drop_zero, List.take_succ_cons, List.take_zero, List.length_cons, List.length_nil, Nat.reduceAdd, Nat.zero_add]; rfl)) (by simp only [meets, and_true]; (try (repeat' apply And.intro)); all_goals (intro z; simp only [fp_d, fp_f, List.mem_cons, List.not_mem_nil, or_false, false_or, not_false_eq_true, true_and, and_true, Bool.false_eq_true, false_and, not_or]; omega)) ?_)
    | (refine dow_new (by simp only [meets, and_true]; (try (repeat' apply And.intro)); all_goals (intro z; simp only [fp_d, fp_f, List.mem_cons, List.not_mem_nil, or_false, false_or, not_false_eq_true, true_and, and_true, Bool.false_eq_true, false_and, not_or]; omega)) ?_)
    | (refine dow_box (by first | (simp only [cellsA]; rfl) | rfl) (by simp only [meets, and_true]; (try (repeat' apply And.intro)); all_goals (intro z; simp only [fp_d, fp_f, List.mem_cons, List.not_mem_nil, or_false, false_or, not_false_eq_true, true_and, and_true, Bool.false_eq_true, false_and, not_or]; omega)) ?_)
    | (refine dow_st (by repeat (first | exact upd_same _ _ _ | assumption | refine upd_get (by omega) ?_)) (by first | (simp only [cellsA]; rfl) | rfl) rfl (by first | (simp; done) | exact Nat.le_refl _) rfl (by first | exact splice_all rfl | (simp only [splice, List.take_succ_cons, List.take_zero, List.drop_succ_cons, List.drop_zero, List.length_cons, List.length_nil, List.cons_append, List.nil_append, Nat.reduceAdd, Nat.zero_add, Nat.add_zero]; rfl)) (by simp only [meets, and_true]; (try (repeat' apply And.intro)); all_goals (intro z; simp only [fp_d, fp_f, List.mem_cons, List.not_mem_nil, or_false, false_or, not_false_eq_true, true_and, and_true, Bool.false_eq_true, false_and, not_or]; omega)) ?_)
    | (refine dgw_run ?_)
    | (refine dgw_tf ?_)
    | (refine dgw_ft ?_)
    | (refine dgw_un ?_))
  have g3 : Good (n + 1 + 1 + 1) (upd (upd (upd h n (some (.cells 0 [.ptr t 0]))) (n + 1) (some (.cells 0 [.int .i64 pe]))) (n + 1 + 1) (some (.cells 0 [.int .i64 ps]))) := (by repeat (first | exact Good.mono (by assumption) (by omega) | (refine Good.upd ?_ (by omega) (by first | rfl | (refine belowL_mono ?_ _ (by assumption); omega) | (simp [belowB, belowL, below]; (try omega))))))
  have keep : ∀ x, x < n → (upd (upd (upd h n (some (.cells 0 [.ptr t 0]))) (n + 1) (some (.cells 0 [.int .i64 pe]))) (n + 1 + 1) (some (.cells 0 [.int .i64 ps]))) x = h x := fun x hx => by repeat (first | rfl | refine upd_get (by omega) ?_)
  obtain ⟨v, h', n', hf, b, hv, G⟩ := callW_elim (all_ev g3 (T.keep g keep) hE (f := 125) (caps := [.ptr n 0, .ptr (n + 1) 0, .ptr (n + 1 + 1) 0]) (H := belowH L pe ps) fun h1 n1 g1 hn1 hk q hq _ => by
    refine belowC_ev g1 ((T.keep g keep).keep g3 hk) R (pe := pe) (ps := ps) ?_ ?_ ?_ (placeRow q) rfl hq n1
    · rw [hk n (by omega)]; exact (by repeat (first | exact upd_same _ _ _ | assumption | refine upd_get (by omega) ?_))
    · rw [hk (n + 1) (by omega)]; exact (by repeat (first | exact upd_same _ _ _ | assumption | refine upd_get (by omega) ?_))
    · rw [hk (n + 1 + 1) (by omega)]; exact (by repeat (first | exact upd_same _ _ _ | assumption | refine upd_get (by omega) ?_)))
  refine cal hf ?_
  exact ⟨b, hv, G.from (by omega) keep⟩

theorem of_ev {t B E : Nat} {L : Nat → Cap} {h : Heap} {n : Nat} (g : Good n h) (T : TreeAt h t B E L) (hE : E ≤ 4) (fr : Int) :
    callW Tryz.prog 58 [.ptr t 0, .int .i64 fr] h n fun v h' n' => ∃ b, v = slV b (allR L (fun q => decide ((L q).f = fr)) (8 * E)).length ∧ Grown n h n' h' b 2 (allR L (fun q => decide ((L q).f = fr)) (8 * E)) := by
  have ht := T.t
  have l1 := g.lt ht
  refine W58_ok ?_
  unfold W58
  repeat (first
    | (refine cw_t ?_)
    | (refine cw_f ?_)
    | (refine gw_run ?_)
    | (refine gw_tf ?_)
    | (refine gw_ft ?_)
    | (refine gw_un ?_)
    | (refine ow_pick_t ?_)
    | (refine ow_pick_f ?_)
    | (refine ow_new ?_)
    | (refine ow_nck_p ?_)
    | (refine ow_nck_i ?_)
    | (refine ow_nck_f ?_)
    | (refine ow_mki ?_)
    | (refine ow_fa rfl ?_)
    | (refine ow_ext rfl ?_)
    | (refine ow_not rfl ?_)
    | (refine ow_peq_pn rfl ?_)
    | (refine ow_peq_nn rfl ?_)
    | (refine ow_peq_np rfl ?_)
    | (refine ow_ieq_in rfl ?_)
    | (refine ow_ieq_nn rfl ?_)
    | (refine ow_ieq_ni rfl ?_)
    | (refine ow_mkf rfl rfl ?_)
    | (refine ow_box (by first | (simp only [cellsA]; rfl) | rfl) ?_)
    | (refine ow_len rfl ?_)
    | (refine ow_lss_t (by omega) ?_)
    | (refine ow_lss_f (by omega) ?_)
    | (refine ow_leq_t (by omega) ?_)
    | (refine ow_leq_f (by omega) ?_)
    | (refine ow_gtr_t (by omega) ?_)
    | (refine ow_gtr_f (by omega) ?_)
    | (refine ow_geq_t (by omega) ?_)
    | (refine ow_geq_f (by omega) ?_)
    | (refine ow_eql_t (by omega) ?_)
    | (refine ow_eql_f (by omega) ?_)
    | (refine ow_neq_t (by omega) ?_)
    | (refine ow_neq_f (by omega) ?_)
    | (refine ow_add_i rfl (by omega) (by omega) ?_)
    | (refine ow_sub_i rfl (by omega) (by omega) ?_)
    | (refine ow_conv_i (by omega) (by omega) ?_)
    | (refine ow_conv_u (by omega) (by omega) ?_)
    | (refine ow_iaA (by omega) (by omega) rfl ?_)
    | (refine ow_iaS (by omega) (by omega) rfl ?_)
    | (refine ow_ld (by repeat (first | exact upd_same _ _ _ | assumption | refine upd_get (by omega) ?_)) (by first | exact part_all rfl | rfl | (simp only [partA, if_true, List.drop_succ_cons, List.drop_zero, List.take_succ_cons, List.take_zero, List.length_cons, List.length_nil, Nat.reduceAdd, Nat.zero_add]; rfl)) ?_)
    | (refine ow_st (by repeat (first | exact upd_same _ _ _ | assumption | refine upd_get (by omega) ?_)) (by first | (simp only [cellsA]; rfl) | rfl) rfl (by first | (simp; done) | exact Nat.le_refl _) rfl (by first | exact splice_all rfl | (simp only [splice, List.take_succ_cons, List.take_zero, List.drop_succ_cons, List.drop_zero, List.length_cons, List.length_nil, List.cons_append, List.nil_append, Nat.reduceAdd, Nat.zero_add, Nat.add_zero]; rfl)) ?_)
    | (refine ow_build (by simp only [repl, List.append_nil, fillA, List.map, ev, cellsA, splice, List.take_succ_cons, List.take_zero, List.drop_succ_cons, List.drop_zero, List.length_cons, List.length_nil, List.cons_append, List.nil_append, Nat.reduceAdd, Nat.zero_add, Nat.add_zero, true_and, and_self, if_true, Nat.reduceLeDiff, Nat.le_refl]; rfl) ?_)
    | (refine ow_bsl (by simp only [repl, List.append_nil, fillA, List.map, ev, cellsA, splice, List.take_succ_cons, List.take_zero, List.drop_succ_cons, List.drop_zero, List.length_cons, List.length_nil, List.cons_append, List.nil_append, Nat.reduceAdd, Nat.zero_add, Nat.add_zero, true_and, and_self, if_true, Nat.reduceLeDiff, Nat.le_refl]; rfl) ?_)
    | (refine ldR_of (by repeat (first | exact upd_same _ _ _ | assumption | refine upd_get (by omega) ?_)) (by first | exact part_all rfl | rfl | (simp only [partA, if_true, List.drop_succ_cons, List.drop_zero, List.take_succ_cons, List.take_zero, List.length_cons, List.length_nil, Nat.reduceAdd, Nat.zero_add]; rfl)) ?_)
    | (refine dow_ld (by repeat (first | exact upd_same _ _ _ | assumption | refine upd_get (by omega) ?_)) (by first | exact part_all rfl | rfl | (simp only [partA, if_true, List.drop_succ_cons, List.drop_zero, List.take_succ_cons, List.take_zero, List.length_cons, List.length_nil, Nat.reduceAdd, Nat.zero_add]; rfl)) (by simp only [meets, and_true]; (try (repeat' apply And.intro)); all_goals (intro z; simp only [fp_d, fp_f, List.mem_cons, List.not_mem_nil, or_false, false_or, not_false_eq_true, true_and, and_true, Bool.false_eq_true, false_and, not_or]; omega)) ?_)
    | (refine dow_new (by simp only [meets, and_true]; (try (repeat' apply And.intro)); all_goals (intro z; simp only [fp_d, fp_f, List.mem_cons, List.not_mem_nil, or_false, false_or, not_false_eq_true, true_and, and_true, Bool.false_eq_true, false_and, not_or]; omega)) ?_)
    | (refine dow_box (by first | (simp only [cellsA]; rfl) | rfl) (by simp only [meets, and_true]; (try (repeat' apply And.intro)); all_goals (intro z; simp only [fp_d, fp_f, List.mem_cons, List.not_mem_nil, or_false, false_or, not_false_eq_true, true_and, and_true, Bool.false_eq_true, false_and, not_or]; omega)) ?_)
    | (refine dow_st (by repeat (first | exact upd_same _ _ _ | assumption | refine upd_get (by omega) ?_)) (by first | (simp only [cellsA]; rfl) | rfl) rfl (by first | (simp; done) | exact Nat.le_refl _) rfl (by first | exact splice_all rfl | (simp only [splice, List.take_succ_cons, List.take_zero, List.drop_succ_cons, List.drop_zero, List.length_cons, List.length_nil, List.cons_append, List.nil_append, Nat.reduceAdd, Nat.zero_add, Nat.add_zero]; rfl)) (by simp only [meets, and_true]; (try (repeat' apply And.intro)); all_goals (intro z; simp only [fp_d, fp_f, List.mem_cons, List.not_mem_nil, or_false, false_or, not_false_eq_true, true_and, and_true, Bool.false_eq_true, false_and, not_or]; omega)) ?_)
    | (refine dgw_run ?_)
    | (refine dgw_tf ?_)
    | (refine dgw_ft ?_)
    | (refine dgw_un ?_))
  have g3 : Good (n + 1) (upd h n (some (.cells 0 [.int .i64 fr]))) := (by repeat (first | exact Good.mono (by assumption) (by omega) | (refine Good.upd ?_ (by omega) (by first | rfl | (refine belowL_mono ?_ _ (by assumption); omega) | (simp [belowB, belowL, below]; (try omega))))))
  have keep : ∀ x, x < n → (upd h n (some (.cells 0 [.int .i64 fr]))) x = h x := fun x hx => by repeat (first | rfl | refine upd_get (by omega) ?_)
  obtain ⟨v, h', n', hf, b, hv, G⟩ := callW_elim (all_ev g3 (T.keep g keep) hE (f := 127) (caps := [.ptr n 0]) (H := fun q => decide ((L q).f = fr)) fun h1 n1 g1 hn1 hk q hq _ => by
    refine ofC_ev g1 (fr := fr) ?_ (placeRow q) rfl (L q) n1
    rw [hk n (by omega)]; exact (by repeat (first | exact upd_same _ _ _ | assumption | refine upd_get (by omega) ?_)))
  refine cal hf ?_
  exact ⟨b, hv, G.from (by omega) keep⟩

/-- look -/
def lookS (E : Nat) (L : Nat → Cap) (env slot : Int) : Int := if isC E env slot = false then 2 else if (L (qi env slot)).r = 0 then 3 else 0

theorem look_ev {t B E : Nat} {L : Nat → Cap} {h : Heap} (T : TreeAt h t B E L) (env slot : Int) (n : Nat) :
    FEv Tryz.prog 118 [.ptr t 0, .int .i64 env, .int .i64 slot] h n (.int .i64 (lookS E L env slot)) h n := by
  have ht := T.t
  have hb := T.b
  refine fev_exact (W118_ok ?_)
  unfold W118
  cases hi : isC E env slot with
  | false =>
    repeat' (first
      | (refine cal (is_ev (by repeat (first | exact upd_same _ _ _ | assumption | refine upd_get (by omega) ?_)) env slot _) ?_)
      | (rw [hi])
      | (refine cw_t ?_)
      | (refine cw_f ?_)
      | (refine gw_run ?_)
      | (refine gw_tf ?_)
      | (refine gw_ft ?_)
      | (refine gw_un ?_)
      | (refine ow_pick_t ?_)
      | (refine ow_pick_f ?_)
      | (refine ow_new ?_)
      | (refine ow_nck_p ?_)
      | (refine ow_nck_i ?_)
      | (refine ow_nck_f ?_)
      | (refine ow_mki ?_)
      | (refine ow_fa rfl ?_)
      | (refine ow_ext rfl ?_)
      | (refine ow_not rfl ?_)
      | (refine ow_peq_pn rfl ?_)
      | (refine ow_peq_nn rfl ?_)
      | (refine ow_peq_np rfl ?_)
      | (refine ow_ieq_in rfl ?_)
      | (refine ow_ieq_nn rfl ?_)
      | (refine ow_ieq_ni rfl ?_)
      | (refine ow_mkf rfl rfl ?_)
      | (refine ow_box (by first | (simp only [cellsA]; rfl) | rfl) ?_)
      | (refine ow_len rfl ?_)
      | (refine ow_lss_t (by omega) ?_)
      | (refine ow_lss_f (by omega) ?_)
      | (refine ow_leq_t (by omega) ?_)
      | (refine ow_leq_f (by omega) ?_)
      | (refine ow_gtr_t (by omega) ?_)
      | (refine ow_gtr_f (by omega) ?_)
      | (refine ow_geq_t (by omega) ?_)
      | (refine ow_geq_f (by omega) ?_)
      | (refine ow_eql_t (by omega) ?_)
      | (refine ow_eql_f (by omega) ?_)
      | (refine ow_neq_t (by omega) ?_)
      | (refine ow_neq_f (by omega) ?_)
      | (refine ow_add_i rfl (by omega) (by omega) ?_)
      | (refine ow_sub_i rfl (by omega) (by omega) ?_)
      | (refine ow_conv_i (by omega) (by omega) ?_)
      | (refine ow_conv_u (by omega) (by omega) ?_)
      | (refine ow_iaA (by omega) (by omega) rfl ?_)
      | (refine ow_iaS (by omega) (by omega) rfl ?_)
      | (refine ow_ld (by repeat (first | exact upd_same _ _ _ | assumption | refine upd_get (by omega) ?_)) (by first | exact part_all rfl | rfl | (simp only [partA, if_true, List.drop_succ_cons, List.drop_zero, List.take_succ_cons, List.take_zero, List.length_cons, List.length_nil, Nat.reduceAdd, Nat.zero_add]; rfl)) ?_)
      | (refine ow_st (by repeat (first | exact upd_same _ _ _ | assumption | refine upd_get (by omega) ?_)) (by first | (simp only [cellsA]; rfl) | rfl) rfl (by first | (simp; done) | exact Nat.le_refl _) rfl (by first | exact splice_all rfl | (simp only [splice, List.take_succ_cons, List.take_zero, List.drop_succ_cons, List.drop_zero, List.length_cons, List.length_nil, List.cons_append, List.nil_append, Nat.reduceAdd, Nat.zero_add, Nat.add_zero]; rfl)) ?_)
      | (refine ow_build (by simp only [repl, List.append_nil, fillA, List.map, ev, cellsA, splice, List.take_succ_cons, List.take_zero, List.drop_succ_cons, List.drop_zero, List.length_cons, List.length_nil, List.cons_append, List.nil_append, Nat.reduceAdd, Nat.zero_add, Nat.add_zero, true_and, and_self, if_true, Nat.reduceLeDiff, Nat.le_refl]; rfl) ?_)
      | (refine ow_bsl (by simp only [repl, List.append_nil, fillA, List.map, ev, cellsA, splice, List.take_succ_cons, List.take_zero, List.drop_succ_cons, List.drop_zero, List.length_cons, List.length_nil, List.cons_append, List.nil_append, Nat.reduceAdd, Nat.zero_add, Nat.add_zero, true_and, and_self, if_true, Nat.reduceLeDiff, Nat.le_refl]; rfl) ?_)
      | (refine ldR_of (by repeat (first | exact upd_same _ _ _ | assumption | refine upd_get (by omega) ?_)) (by first | exact part_all rfl | rfl | (simp only [partA, if_true, List.drop_succ_cons, List.drop_zero, List.take_succ_cons, List.take_zero, List.length_cons, List.length_nil, Nat.reduceAdd, Nat.zero_add]; rfl)) ?_)
      | (refine dow_ld (by repeat (first | exact upd_same _ _ _ | assumption | refine upd_get (by omega) ?_)) (by first | exact part_all rfl | rfl | (simp only [partA, if_true, List.drop_succ_cons, List.drop_zero, List.take_succ_cons, List.take_zero, List.length_cons, List.length_nil, Nat.reduceAdd, Nat.zero_add]; rfl)) (by simp only [meets, and_true]; (try (repeat' apply And.intro)); all_goals (intro z; simp only [fp_d, fp_f, List.mem_cons, List.not_mem_nil, or_false, false_or, not_false_eq_true, true_and, and_true, Bool.false_eq_true, false_and, not_or]; omega)) ?_)
      | (refine dow_new (by simp only [meets, and_true]; (try (repeat' apply And.intro)); all_goals (intro z; simp only [fp_d, fp_f, List.mem_cons, List.not_mem_nil, or_false, false_or, not_false_eq_true, true_and, and_true, Bool.false_eq_true, false_and, not_or]; omega)) ?_)
      | (refine dow_box (by first | (simp only [cellsA]; rfl) | rfl) (by simp only [meets, and_true]; (try (repeat' apply And.intro)); all_goals (intro z; simp only [fp_d, fp_f, List.mem_cons, List.not_mem_nil, or_false, false_or, not_false_eq_true, true_and, and_true, Bool.false_eq_true, false_and, not_or]; omega)) ?_)
      | (refine dow_st (by repeat (first | exact upd_same _ _ _ | assumption | refine upd_get (by omega) ?_)) (by first | (simp only [cellsA]; rfl) | rfl) rfl (by first | (simp; done) | exact Nat.le_refl _) rfl (by first | exact splice_all rfl | (simp only [splice, List.take_succ_cons, List.take_zero, List.drop_succ_cons, List.drop_zero, List.length_cons, List.length_nil, List.cons_append, List.nil_append, Nat.reduceAdd, Nat.zero_add, Nat.add_zero]; rfl)) (by simp only [meets, and_true]; (try (repeat' apply And.intro)); all_goals (intro z; simp only [fp_d, fp_f, List.mem_cons, List.not_mem_nil, or_false, false_or, not_false_eq_true, true_and, and_true, Bool.false_eq_true, false_and, not_or]; omega)) ?_)
      | (refine dgw_run ?_)
      | (refine dgw_tf ?_)
      | (refine dgw_ft ?_)
      | (refine dgw_un ?_)
      | (refine ow_lss (fun _ => ?_) (fun _ => ?_))
      | (refine ow_leq (fun _ => ?_) (fun _ => ?_))
      | (refine ow_gtr (fun _ => ?_) (fun _ => ?_))
      | (refine ow_geq (fun _ => ?_) (fun _ => ?_))
      | (refine ow_eql (fun _ => ?_) (fun _ => ?_))
      | (refine ow_neq (fun _ => ?_) (fun _ => ?_)))
    exact ⟨by simp [lookS, hi], rfl, rfl⟩
  | true =>
    have hq := qi_lt hi
    have hi' := hi
    rw [isC_iff] at hi'
    obtain ⟨i1, i2, i3, i4⟩ := hi'
    repeat' (first
      | (refine cal (is_ev (by repeat (first | exact upd_same _ _ _ | assumption | refine upd_get (by omega) ?_)) env slot _) ?_)
      | (rw [hi])
      | (refine ow_ld (by repeat (first | exact upd_same _ _ _ | assumption | refine upd_get (by omega) ?_)) (cap_r (q := qi env slot) (by unfold qi; omega) hq) ?_)
      | (refine cw_t ?_)
      | (refine cw_f ?_)
      | (refine gw_run ?_)
      | (refine gw_tf ?_)
      | (refine gw_ft ?_)
      | (refine gw_un ?_)
      | (refine ow_pick_t ?_)
      | (refine ow_pick_f ?_)
      | (refine ow_new ?_)
      | (refine ow_nck_p ?_)
      | (refine ow_nck_i ?_)
      | (refine ow_nck_f ?_)
      | (refine ow_mki ?_)
      | (refine ow_fa rfl ?_)
      | (refine ow_ext rfl ?_)
      | (refine ow_not rfl ?_)
      | (refine ow_peq_pn rfl ?_)
      | (refine ow_peq_nn rfl ?_)
      | (refine ow_peq_np rfl ?_)
      | (refine ow_ieq_in rfl ?_)
      | (refine ow_ieq_nn rfl ?_)
      | (refine ow_ieq_ni rfl ?_)
      | (refine ow_mkf rfl rfl ?_)
      | (refine ow_box (by first | (simp only [cellsA]; rfl) | rfl) ?_)
      | (refine ow_len rfl ?_)
      | (refine ow_lss_t (by omega) ?_)
      | (refine ow_lss_f (by omega) ?_)
      | (refine ow_leq_t (by omega) ?_)
      | (refine ow_leq_f (by omega) ?_)
      | (refine ow_gtr_t (by omega) ?_)
      | (refine ow_gtr_f (by omega) ?_)
      | (refine ow_geq_t (by omega) ?_)
      | (refine ow_geq_f (by omega) ?_)
      | (refine ow_eql_t (by omega) ?_)
      | (refine ow_eql_f (by omega) ?_)
      | (refine ow_neq_t (by omega) ?_)
      | (refine ow_neq_f (by omega) ?_)
      | (refine ow_add_i rfl (by omega) (by omega) ?_)
      | (refine ow_sub_i rfl (by omega) (by omega) ?_)
      | (refine ow_conv_i (by omega) (by omega) ?_)
      | (refine ow_conv_u (by omega) (by omega) ?_)
      | (refine ow_iaA (by omega) (by omega) rfl ?_)
      | (refine ow_iaS (by omega) (by omega) rfl ?_)
      | (refine ow_ld (by repeat (first | exact upd_same _ _ _ | assumption | refine upd_get (by omega) ?_)) (by first | exact part_all rfl | rfl | (simp only [partA, if_true, List.drop_succ_cons, List.drop_zero, List.take_succ_cons, List.take_zero, List.length_cons, List.length_nil, Nat.reduceAdd, Nat.zero_add]; rfl)) ?_)
      | (refine ow_st (by repeat (first | exact upd_same _ _ _ | assumption | refine upd_get (by omega) ?_)) (by first | (simp only [cellsA]; rfl) | rfl) rfl (by first | (simp; done) | exact Nat.le_refl _) rfl (by first | exact splice_all rfl | (simp only [splice, List.take_succ_cons, List.take_zero, List.drop_succ_cons, List.drop_zero, List.length_cons, List.length_nil, List.cons_append, List.nil_append, Nat.reduceAdd, Nat.zero_add, Nat.add_zero]; rfl)) ?_)
      | (refine ow_build (by simp only [repl, List.append_nil, fillA, List.map, ev, cellsA, splice, List.take_succ_cons, List.take_zero, List.drop_succ_cons, List.drop_zero, List.length_cons, List.length_nil, List.cons_append, List.nil_append, Nat.reduceAdd, Nat.zero_add, Nat.add_zero, true_and, and_self, if_true, Nat.reduceLeDiff, Nat.le_refl]; rfl) ?_)
      | (refine ow_bsl (by simp only [repl, List.append_nil, fillA, List.map, ev, cellsA, splice, List.take_succ_cons, List.take_zero, List.drop_succ_cons, List.drop_zero, List.length_cons, List.length_nil, List.cons_append, List.nil_append, Nat.reduceAdd, Nat.zero_add, Nat.add_zero, true_and, and_self, if_true, Nat.reduceLeDiff, Nat.le_refl]; rfl) ?_)
      | (refine ldR_of (by repeat (first | exact upd_same _ _ _ | assumption | refine upd_get (by omega) ?_)) (by first | exact part_all rfl | rfl | (simp only [partA, if_true, List.drop_succ_cons, List.drop_zero, List.take_succ_cons, List.take_zero, List.length_cons, List.length_nil, Nat.reduceAdd, Nat.zero_add]; rfl)) ?_)
      | (refine dow_ld (by repeat (first | exact upd_same _ _ _ | assumption | refine upd_get (by omega) ?_)) (by first | exact part_all rfl | rfl | (simp only [partA, if_true, List.drop_succ_cons, List.drop_zero, List.take_succ_cons, List.take_zero, List.length_cons, List.length_nil, Nat.reduceAdd, Nat.zero_add]; rfl)) (by simp only [meets, and_true]; (try (repeat' apply And.intro)); all_goals (intro z; simp only [fp_d, fp_f, List.mem_cons, List.not_mem_nil, or_false, false_or, not_false_eq_true, true_and, and_true, Bool.false_eq_true, false_and, not_or]; omega)) ?_)
      | (refine dow_new (by simp only [meets, and_true]; (try (repeat' apply And.intro)); all_goals (intro z; simp only [fp_d, fp_f, List.mem_cons, List.not_mem_nil, or_false, false_or, not_false_eq_true, true_and, and_true, Bool.false_eq_true, false_and, not_or]; omega)) ?_)
      | (refine dow_box (by first | (simp only [cellsA]; rfl) | rfl) (by simp only [meets, and_true]; (try (repeat' apply And.intro)); all_goals (intro z; simp only [fp_d, fp_f, List.mem_cons, List.not_mem_nil, or_false, false_or, not_false_eq_true, true_and, and_true, Bool.false_eq_true, false_and, not_or]; omega)) ?_)
      | (refine dow_st (by repeat (first | exact upd_same _ _ _ | assumption | refine upd_get (by omega) ?_)) (by first | (simp only [cellsA]; rfl) | rfl) rfl (by first | (simp; done) | exact Nat.le_refl _) rfl (by first | exact splice_all rfl | (simp only [splice, List.take_succ_cons, List.take_zero, List.drop_succ_cons, List.drop_zero, List.length_cons, List.length_nil, List.cons_append, List.nil_append, Nat.reduceAdd, Nat.zero_add, Nat.add_zero]; rfl)) (by simp only [meets, and_true]; (try (repeat' apply And.intro)); all_goals (intro z; simp only [fp_d, fp_f, List.mem_cons, List.not_mem_nil, or_false, false_or, not_false_eq_true, true_and, and_true, Bool.false_eq_true, false_and, not_or]; omega)) ?_)
      | (refine dgw_run ?_)
      | (refine dgw_tf ?_)
      | (refine dgw_ft ?_)
      | (refine dgw_un ?_)
      | (refine ow_lss (fun _ => ?_) (fun _ => ?_))
      | (refine ow_leq (fun _ => ?_) (fun _ => ?_))
      | (refine ow_gtr (fun _ => ?_) (fun _ => ?_))
      | (refine ow_geq (fun _ => ?_) (fun _ => ?_))
      | (refine ow_eql (fun _ => ?_) (fun _ => ?_))
      | (refine ow_neq (fun _ => ?_) (fun _ => ?_)))
    all_goals exact ⟨by simp [lookS, *], rfl, rfl⟩
end Go.Proofs.As0
/- Contracts: a tree of capabilities: what is taken out. -/
namespace Go.Proofs.As0
open Go Go.Eng
attribute [local irreducible] opW callW cvW invW grdW cndW ldR dopW dcallW dcvW dgrdW loopW

def wipeL (L : Nat → Cap) (l : List Nat) (q : Nat) : Cap := if q ∈ l then cap0 else L q

theorem wipe_nil (L : Nat → Cap) : wipeL L [] = L := by funext q; simp [wipeL]
theorem wipe_snoc (L : Nat → Cap) (l : List Nat) (q : Nat) : wipeL L (l ++ [q]) = setF (wipeL L l) q cap0 := by
  funext x
  unfold wipeL setF
  by_cases h : x = q
  · simp [h]
  · simp [h]

theorem slV_pos {b len : Nat} (h : len ≠ 0) : slV b len = .sl b 0 0 len none := by simp [slV, h]

set_option maxRecDepth 20000 in
theorem empties_ev {t B E : Nat} {L : Nat → Cap} {h : Heap} {n : Nat} (g : Good n h) (T : TreeAt h t B E L) {qs : List Nat} (hqs : ∀ q ∈ qs, q < 8 * E) {b : Nat}
    (hb : qs ≠ [] → h b = some (.cells 2 (qs.map placeRow).flatten)) (hlen : qs.length ≤ 32) (m : Nat) :
    FEv Tryz.prog 119 [.ptr t 0, slV b qs.length] h m (slV b qs.length) (treeH h B E (wipeL L qs)) m := by
  have ht := T.t
  have hB := T.b
  have l1 := g.lt ht
  have l2 := g.lt hB
  have hsl : below n (slV b qs.length) = true := by
    unfold slV
    split
    · rfl
    · rename_i h0
      have := g.lt (hb (fun e => h0 (by rw [e]; rfl)))
      simp [below]; omega
  refine fev_turn g (by rw [glob4]; omega) (by simp only [belowL, hsl]; simp [below]; omega) hsl (treeH_good g T _) (W119_ok ?_) m
  unfold W119
  repeat (first
    | (refine ow_len (lenA_slV _ _) ?_)
    | (refine cw_t ?_)
    | (refine cw_f ?_)
    | (refine gw_run ?_)
    | (refine gw_tf ?_)
    | (refine gw_ft ?_)
    | (refine gw_un ?_)
    | (refine ow_pick_t ?_)
    | (refine ow_pick_f ?_)
    | (refine ow_new ?_)
    | (refine ow_nck_p ?_)
    | (refine ow_nck_i ?_)
    | (refine ow_nck_f ?_)
    | (refine ow_mki ?_)
    | (refine ow_fa rfl ?_)
    | (refine ow_ext rfl ?_)
    | (refine ow_not rfl ?_)
    | (refine ow_peq_pn rfl ?_)
    | (refine ow_peq_nn rfl ?_)
    | (refine ow_peq_np rfl ?_)
    | (refine ow_ieq_in rfl ?_)
    | (refine ow_ieq_nn rfl ?_)
    | (refine ow_ieq_ni rfl ?_)
    | (refine ow_mkf rfl rfl ?_)
    | (refine ow_box (by first | (simp only [cellsA]; rfl) | rfl) ?_)
    | (refine ow_len rfl ?_)
    | (refine ow_lss_t (by omega) ?_)
    | (refine ow_lss_f (by omega) ?_)
    | (refine ow_leq_t (by omega) ?_)
    | (refine ow_leq_f (by omega) ?_)
    | (refine ow_gtr_t (by omega) ?_)
    | (refine ow_gtr_f (by omega) ?_)
    | (refine ow_geq_t (by omega) ?_)
    | (refine ow_geq_f (by omega) ?_)
    | (refine ow_eql_t (by omega) ?_)
    | (refine ow_eql_f (by omega) ?_)
    | (refine ow_neq_t (by omega) ?_)
    | (refine ow_neq_f (by omega) ?_)
    | (refine ow_add_i rfl (by omega) (by omega) ?_)
    | (refine ow_sub_i rfl (by omega) (by omega) ?_)
    | (refine ow_conv_i (by omega) (by omega) ?_)
    | (refine ow_conv_u (by omega) (by omega) ?_)
    | (refine ow_iaA (by omega) (by omega) rfl ?_)
    | (refine ow_iaS (by omega) (by omega) rfl ?_)
    | (refine ow_ld (by repeat (first | exact upd_same _ _ _ | assumption | refine upd_get (by omega) ?_)) (by first | exact part_all rfl | rfl | (simp only [partA, if_true, List.drop_succ_cons, List.drop_zero, List.take_succ_cons, List.take_zero, List.length_cons, List.length_nil, Nat.reduceAdd, Nat.zero_add]; rfl)) ?_)
    | (refine ow_st (by repeat (first | exact upd_same _ _ _ | assumption | refine upd_get (by omega) ?_)) (by first | (simp only [cellsA]; rfl) | rfl) rfl (by first | (simp; done) | exact Nat.le_refl _) rfl (by first | exact splice_all rfl | (simp only [splice, List.take_succ_cons, List.take_zero, List.drop_succ_cons, List.drop_zero, List.length_cons, List.length_nil, List.cons_append, List.nil_append, Nat.reduceAdd, Nat.zero_add, Nat.add_zero]; rfl)) ?_)
    | (refine ow_build (by simp only [repl, List.append_nil, fillA, List.map, ev, cellsA, splice, List.take_succ_cons, List.take_zero, List.drop_succ_cons, List.drop_zero, List.length_cons, List.length_nil, List.cons_append, List.nil_append, Nat.reduceAdd, Nat.zero_add, Nat.add_zero, true_and, and_self, if_true, Nat.reduceLeDiff, Nat.le_refl]; rfl) ?_)
    | (refine ow_bsl (by simp only [repl, List.append_nil, fillA, List.map, ev, cellsA, splice, List.take_succ_cons, List.take_zero, List.drop_succ_cons, List.drop_zero, List.length_cons, List.length_nil, List.cons_append, List.nil_append, Nat.reduceAdd, Nat.zero_add, Nat.add_zero, true_and, and_self, if_true, Nat.reduceLeDiff, Nat.le_refl]; rfl) ?_)
    | (refine ldR_of (by repeat (first | exact upd_same _ _ _ | assumption | refine upd_get (by omega) ?_)) (by first | exact part_all rfl | rfl | (simp only [partA, if_true, List.drop_succ_cons, List.drop_zero, List.take_succ_cons, List.take_zero, List.length_cons, List.length_nil, Nat.reduceAdd, Nat.zero_add]; rfl)) ?_)
    | (refine dow_ld (by repeat (first | exact upd_same _ _ _ | assumption | refine upd_get (by omega) ?_)) (by first | exact part_all rfl | rfl | (simp only [partA, if_true, List.drop_succ_cons, List.drop_zero, List.take_succ_cons, List.take_zero, List.length_cons, List.length_nil, Nat.reduceAdd, Nat.zero_add]; rfl)) (by simp only [meets, and_true]; (try (repeat' apply And.intro)); all_goals (intro z; simp only [fp_d, fp_f, List.mem_cons, List.not_mem_nil, or_false, false_or, not_false_eq_true, true_and, and_true, Bool.false_eq_true, false_and, not_or]; omega)) ?_)
    | (refine dow_new (by simp only [meets, and_true]; (try (repeat' apply And.intro)); all_goals (intro z; simp only [fp_d, fp_f, List.mem_cons, List.not_mem_nil, or_false, false_or, not_false_eq_true, true_and, and_true, Bool.false_eq_true, false_and, not_or]; omega)) ?_)
    | (refine dow_box (by first | (simp only [cellsA]; rfl) | rfl) (by simp only [meets, and_true]; (try (repeat' apply And.intro)); all_goals (intro z; simp only [fp_d, fp_f, List.mem_cons, List.not_mem_nil, or_false, false_or, not_false_eq_true, true_and, and_true, Bool.false_eq_true, false_and, not_or]; omega)) ?_)
    | (refine dow_st (by repeat (first | exact upd_same _ _ _ | assumption | refine upd_get (by omega) ?_)) (by first | (simp only [cellsA]; rfl) | rfl) rfl (by first | (simp; done) | exact Nat.le_refl _) rfl (by first | exact splice_all rfl | (simp only [splice, List.take_succ_cons, List.take_zero, List.drop_succ_cons, List.drop_zero, List.length_cons, List.length_nil, List.cons_append, List.nil_append, Nat.reduceAdd, Nat.zero_add, Nat.add_zero]; rfl)) (by simp only [meets, and_true]; (try (repeat' apply And.intro)); all_goals (intro z; simp only [fp_d, fp_f, List.mem_cons, List.not_mem_nil, or_false, false_or, not_false_eq_true, true_and, and_true, Bool.false_eq_true, false_and, not_or]; omega)) ?_)
    | (refine dgw_run ?_)
    | (refine dgw_tf ?_)
    | (refine dgw_ft ?_)
    | (refine dgw_un ?_))
  refine loopW_inv mixed (fun d a h1 n1 => ∃ gg i, a = tl 26 gg ∧ gg 0 = .ptr t 0 ∧ gg 1 = slV b qs.length ∧ gg 7 = slV b qs.length ∧ gg 8 = .int .i64 ((qs.length : Nat) : Int) ∧ gg 9 = .int .i64 ((i : Nat) : Int) ∧
    i ≤ qs.length ∧ d = qs.length - i ∧ Good n1 h1 ∧ n ≤ n1 ∧ ∀ x, x < n → h1 x = treeH h B E (wipeL L (qs.take i)) x) (d := qs.length) ?_
    ⟨_, 0, rfl, rfl, rfl, rfl, rfl, rfl, Nat.zero_le _, rfl, g, Nat.le_refl _, fun x _ => by rw [List.take_zero, wipe_nil, T.self]⟩
  intro d a h1 n1 hI
  obtain ⟨gg, i, ha, g0, g1, g7, g8, g9, hi, hd, gd, hn, old⟩ := hI
  subst ha
  rw [B119_0_eq]
  unfold B119_0
  rw [g0, g7, g8, g9]
  by_cases hlt : i < qs.length
  · have hne : qs ≠ [] := fun e => by rw [e] at hlt; simp at hlt
    have hlb := g.lt (hb hne)
    have hbB : b ≠ B := by
      rintro rfl
      have := (hb hne).symm.trans hB
      simp at this
    have ht1 : h1 t = some (.cells 0 [.sl B 0 0 E (some E)]) := by rw [old t l1]; exact (T.put _).t
    have hB1 : h1 B = some (.cells 32 (enc Cap.row (8 * E) (wipeL L (qs.take i)))) := by rw [old B l2]; exact (T.put _).b
    have hb1 : h1 b = some (.cells 2 (enc placeRow qs.length fun i => qs.getD i 0)) := by
      rw [old b hlb, treeH, upd_ne _ _ hbB, hb hne, flatten_enc placeRow 0]
    have hq : qs.getD i 0 < 8 * E := hqs _ (by simp [List.getD_eq_getElem?_getD, hlt])
    have hsp : qs.take (i + 1) = qs.take i ++ [qs.getD i 0] := by
      rw [List.take_add_one, List.getD_eq_getElem?_getD]; simp [hlt]
    obtain ⟨q, hqe⟩ : ∃ q, q = qs.getD i 0 := ⟨_, rfl⟩
    rw [← hqe] at hq hsp
    rw [slV_pos (by omega)]
    repeat (first
      | (refine ow_ld (v := .agg (placeRow q)) (by repeat (first | exact upd_same _ _ _ | assumption | refine upd_get (by omega) ?_)) (by rw [show 0 + (i : Int).toNat * 2 = i * 2 by omega, hqe]; exact partA_row placeRow_len _ hlt) ?_)
      | (refine dow_st (by repeat (first | exact upd_same _ _ _ | assumption | refine upd_get (by omega) ?_)) (cs' := enc Cap.row (8 * E) (setF (wipeL L (qs.take i)) q cap0)) (by first | (simp only [cellsA]; rfl) | rfl) rfl (cap_fit (q := q) (by omega) hq) rfl (cap_put (q := q) (c := cap0) (by omega) hq) (by simp only [meets, and_true]; (try (repeat' apply And.intro)); all_goals (intro z; simp only [fp_d, fp_f, List.mem_cons, List.not_mem_nil, or_false, false_or, not_false_eq_true, true_and, and_true, Bool.false_eq_true, false_and, not_or]; omega)) ?_)
      | (refine cw_t ?_)
      | (refine cw_f ?_)
      | (refine gw_run ?_)
      | (refine gw_tf ?_)
      | (refine gw_ft ?_)
      | (refine gw_un ?_)
      | (refine ow_pick_t ?_)
      | (refine ow_pick_f ?_)
      | (refine ow_new ?_)
      | (refine ow_nck_p ?_)
      | (refine ow_nck_i ?_)
      | (refine ow_nck_f ?_)
      | (refine ow_mki ?_)
      | (refine ow_fa rfl ?_)
      | (refine ow_ext rfl ?_)
      | (refine ow_not rfl ?_)
      | (refine ow_peq_pn rfl ?_)
      | (refine ow_peq_nn rfl ?_)
      | (refine ow_peq_np rfl ?_)
      | (refine ow_ieq_in rfl ?_)
      | (refine ow_ieq_nn rfl ?_)
      | (refine ow_ieq_ni rfl ?_)
      | (refine ow_mkf rfl rfl ?_)
      | (refine ow_box (by first | (simp only [cellsA]; rfl) | rfl) ?_)
      | (refine ow_len rfl ?_)
      | (refine ow_lss_t (by omega) ?_)
      | (refine ow_lss_f (by omega) ?_)
      | (refine ow_leq_t (by omega) ?_)
      | (refine ow_leq_f (by omega) ?_)
      | (refine ow_gtr_t (by omega) ?_)
      | (refine ow_gtr_f (by omega) ?_)
      | (refine ow_geq_t (by omega) ?_)
      | (refine ow_geq_f (by omega) ?_)
      | (refine ow_eql_t (by omega) ?_)
      | (refine ow_eql_f (by omega) ?_)
      | (refine ow_neq_t (by omega) ?_)
      | (refine ow_neq_f (by omega) ?_)
      | (refine ow_add_i rfl (by omega) (by omega) ?_)
      | (refine ow_sub_i rfl (by omega) (by omega) ?_)
      | (refine ow_conv_i (by omega) (by omega) ?_)
      | (refine ow_conv_u (by omega) (by omega) ?_)
      | (refine ow_iaA (by omega) (by omega) rfl ?_)
      | (refine ow_iaS (by omega) (by omega) rfl ?_)
      | (refine ow_ld (by repeat (first | exact upd_same _ _ _ | assumption | refine upd_get (by omega) ?_)) (by first | exact part_all rfl | rfl | (simp only [partA, if_true, List.drop_succ_cons, List.drop_zero, List.take_succ_cons, List.take_zero, List.length_cons, List.length_nil, Nat.reduceAdd, Nat.zero_add]; rfl)) ?_)
      | (refine ow_st (by repeat (first | exact upd_same _ _ _ | assumption | refine upd_get (by omega) ?_)) (by first | (simp only [cellsA]; rfl) | rfl) rfl (by first | (simp; done) | exact Nat.le_refl _) rfl (by first | exact splice_all rfl | (simp only [splice, List.take_succ_cons, List.take_zero, List.drop_succ_cons, List.drop_zero, List.length_cons, List.length_nil, List.cons_append, List.nil_append, Nat.reduceAdd, Nat.zero_add, Nat.add_zero]; rfl)) ?_)
      | (refine ow_build (by simp only [repl, List.append_nil, fillA, List.map, ev, cellsA, splice, List.take_succ_cons, List.take_zero, List.drop_succ_cons, List.drop_zero, List.length_cons, List.length_nil, List.cons_append, List.nil_append, Nat.reduceAdd, Nat.zero_add, Nat.add_zero, true_and, and_self, if_true, Nat.reduceLeDiff, Nat.le_refl]; rfl) ?_)
      | (refine ow_bsl (by simp only [repl, List.append_nil, fillA, List.map, ev, cellsA, splice, List.take_succ_cons, List.take_zero, List.drop_succ_cons, List.drop_zero, List.length_cons, List.length_nil, List.cons_append, List.nil_append, Nat.reduceAdd, Nat.zero_add, Nat.add_zero, true_and, and_self, if_true, Nat.reduceLeDiff, Nat.le_refl]; rfl) ?_)
      | (refine ldR_of (by repeat (first | exact upd_same _ _ _ | assumption | refine upd_get (by omega) ?_)) (by first | exact part_all rfl | rfl | (simp only [partA, if_true, List.drop_succ_cons, List.drop_zero, List.take_succ_cons, List.take_zero, List.length_cons, List.length_nil, Nat.reduceAdd, Nat.zero_add]; rfl)) ?_)
      | (refine dow_ld (by repeat (first | exact upd_same _ _ _ | assumption | refine upd_get (by omega) ?_)) (by first | exact part_all rfl | rfl | (simp only [partA, if_true, List.drop_succ_cons, List.drop_zero, List.take_succ_cons, List.take_zero, List.length_cons, List.length_nil, Nat.reduceAdd, Nat.zero_add]; rfl)) (by simp only [meets, and_true]; (try (repeat' apply And.intro)); all_goals (intro z; simp only [fp_d, fp_f, List.mem_cons, List.not_mem_nil, or_false, false_or, not_false_eq_true, true_and, and_true, Bool.false_eq_true, false_and, not_or]; omega)) ?_)
      | (refine dow_new (by simp only [meets, and_true]; (try (repeat' apply And.intro)); all_goals (intro z; simp only [fp_d, fp_f, List.mem_cons, List.not_mem_nil, or_false, false_or, not_false_eq_true, true_and, and_true, Bool.false_eq_true, false_and, not_or]; omega)) ?_)
      | (refine dow_box (by first | (simp only [cellsA]; rfl) | rfl) (by simp only [meets, and_true]; (try (repeat' apply And.intro)); all_goals (intro z; simp only [fp_d, fp_f, List.mem_cons, List.not_mem_nil, or_false, false_or, not_false_eq_true, true_and, and_true, Bool.false_eq_true, false_and, not_or]; omega)) ?_)
      | (refine dow_st (by repeat (first | exact upd_same _ _ _ | assumption | refine upd_get (by omega) ?_)) (by first | (simp only [cellsA]; rfl) | rfl) rfl (by first | (simp; done) | exact Nat.le_refl _) rfl (by first | exact splice_all rfl | (simp only [splice, List.take_succ_cons, List.take_zero, List.drop_succ_cons, List.drop_zero, List.length_cons, List.length_nil, List.cons_append, List.nil_append, Nat.reduceAdd, Nat.zero_add, Nat.add_zero]; rfl)) (by simp only [meets, and_true]; (try (repeat' apply And.intro)); all_goals (intro z; simp only [fp_d, fp_f, List.mem_cons, List.not_mem_nil, or_false, false_or, not_false_eq_true, true_and, and_true, Bool.false_eq_true, false_and, not_or]; omega)) ?_)
      | (refine dgw_run ?_)
      | (refine dgw_tf ?_)
      | (refine dgw_ft ?_)
      | (refine dgw_un ?_))
    refine ⟨qs.length - (i + 1), by omega, _, i + 1, rfl, g0, g1.trans (slV_pos (by omega)), g7.trans (slV_pos (by omega)), g8, rfl, by omega, rfl, ?_, by omega, fun x hx => ?_⟩
    · refine Good.upd ?_ (by omega) (cap_below _)
      exact (by repeat (first | exact Good.mono (by assumption) (by omega) | (refine Good.upd ?_ (by omega) (by first | rfl | (refine belowL_mono ?_ _ (by assumption); omega) | (simp [belowB, belowL, below]; (try omega))))))
    · rw [hsp, wipe_snoc]
      by_cases hxB : x = B
      · subst hxB; rw [upd_same, treeH, upd_same]
      · rw [upd_ne _ _ hxB, treeH, upd_ne _ _ hxB]
        refine upd_get (by omega) (upd_get (by omega) ?_)
        rw [old x hx, treeH, upd_ne _ _ hxB]
  · repeat (first
      | (refine cw_t ?_)
      | (refine cw_f ?_)
      | (refine gw_run ?_)
      | (refine gw_tf ?_)
      | (refine gw_ft ?_)
      | (refine gw_un ?_)
      | (refine ow_pick_t ?_)
      | (refine ow_pick_f ?_)
      | (refine ow_new ?_)
      | (refine ow_nck_p ?_)
      | (refine ow_nck_i ?_)
      | (refine ow_nck_f ?_)
      | (refine ow_mki ?_)
      | (refine ow_fa rfl ?_)
      | (refine ow_ext rfl ?_)
      | (refine ow_not rfl ?_)
      | (refine ow_peq_pn rfl ?_)
      | (refine ow_peq_nn rfl ?_)
      | (refine ow_peq_np rfl ?_)
      | (refine ow_ieq_in rfl ?_)
      | (refine ow_ieq_nn rfl ?_)
      | (refine ow_ieq_ni rfl ?_)
      | (refine ow_mkf rfl rfl ?_)
      | (refine ow_box (by first | (simp only [cellsA]; rfl) | rfl) ?_)
      | (refine ow_len rfl ?_)
      | (refine ow_lss_t (by omega) ?_)
      | (refine ow_lss_f (by omega) ?_)
      | (refine ow_leq_t (by omega) ?_)
      | (refine ow_leq_f (by omega) ?_)
      | (refine ow_gtr_t (by omega) ?_)
      | (refine ow_gtr_f (by omega) ?_)
      | (refine ow_geq_t (by omega) ?_)
      | (refine ow_geq_f (by omega) ?_)
      | (refine ow_eql_t (by omega) ?_)
      | (refine ow_eql_f (by omega) ?_)
      | (refine ow_neq_t (by omega) ?_)
      | (refine ow_neq_f (by omega) ?_)
      | (refine ow_add_i rfl (by omega) (by omega) ?_)
      | (refine ow_sub_i rfl (by omega) (by omega) ?_)
      | (refine ow_conv_i (by omega) (by omega) ?_)
      | (refine ow_conv_u (by omega) (by omega) ?_)
      | (refine ow_iaA (by omega) (by omega) rfl ?_)
      | (refine ow_iaS (by omega) (by omega) rfl ?_)
      | (refine ow_ld (by repeat (first | exact upd_same _ _ _ | assumption | refine upd_get (by omega) ?_)) (by first | exact part_all rfl | rfl | (simp only [partA, if_true, List.drop_succ_cons, List.drop_zero, List.take_succ_cons, List.take_zero, List.length_cons, List.length_nil, Nat.reduceAdd, Nat.zero_add]; rfl)) ?_)
      | (refine ow_st (by repeat (first | exact upd_same _ _ _ | assumption | refine upd_get (by omega) ?_)) (by first | (simp only [cellsA]; rfl) | rfl) rfl (by first | (simp; done) | exact Nat.le_refl _) rfl (by first | exact splice_all rfl | (simp only [splice, List.take_succ_cons, List.take_zero, List.drop_succ_cons, List.drop_zero, List.length_cons, List.length_nil, List.cons_append, List.nil_append, Nat.reduceAdd, Nat.zero_add, Nat.add_zero]; rfl)) ?_)
      | (refine ow_build (by simp only [repl, List.append_nil, fillA, List.map, ev, cellsA, splice, List.take_succ_cons, List.take_zero, List.drop_succ_cons, List.drop_zero, List.length_cons, List.length_nil, List.cons_append, List.nil_append, Nat.reduceAdd, Nat.zero_add, Nat.add_zero, true_and, and_self, if_true, Nat.reduceLeDiff, Nat.le_refl]; rfl) ?_)
      | (refine ow_bsl (by simp only [repl, List.append_nil, fillA, List.map, ev, cellsA, splice, List.take_succ_cons, List.take_zero, List.drop_succ_cons, List.drop_zero, List.length_cons, List.length_nil, List.cons_append, List.nil_append, Nat.reduceAdd, Nat.zero_add, Nat.add_zero, true_and, and_self, if_true, Nat.reduceLeDiff, Nat.le_refl]; rfl) ?_)
      | (refine ldR_of (by repeat (first | exact upd_same _ _ _ | assumption | refine upd_get (by omega) ?_)) (by first | exact part_all rfl | rfl | (simp only [partA, if_true, List.drop_succ_cons, List.drop_zero, List.take_succ_cons, List.take_zero, List.length_cons, List.length_nil, Nat.reduceAdd, Nat.zero_add]; rfl)) ?_)
      | (refine dow_ld (by repeat (first | exact upd_same _ _ _ | assumption | refine upd_get (by omega) ?_)) (by first | exact part_all rfl | rfl | (simp only [partA, if_true, List.drop_succ_cons, List.drop_zero, List.take_succ_cons, List.take_zero, List.length_cons, List.length_nil, Nat.reduceAdd, Nat.zero_add]; rfl)) (by simp only [meets, and_true]; (try (repeat' apply And.intro)); all_goals (intro z; simp only [fp_d, fp_f, List.mem_cons, List.not_mem_nil, or_false, false_or, not_false_eq_true, true_and, and_true, Bool.false_eq_true, false_and, not_or]; omega)) ?_)
      | (refine dow_new (by simp only [meets, and_true]; (try (repeat' apply And.intro)); all_goals (intro z; simp only [fp_d, fp_f, List.mem_cons, List.not_mem_nil, or_false, false_or, not_false_eq_true, true_and, and_true, Bool.false_eq_true, false_and, not_or]; omega)) ?_)
      | (refine dow_box (by first | (simp only [cellsA]; rfl) | rfl) (by simp only [meets, and_true]; (try (repeat' apply And.intro)); all_goals (intro z; simp only [fp_d, fp_f, List.mem_cons, List.not_mem_nil, or_false, false_or, not_false_eq_true, true_and, and_true, Bool.false_eq_true, false_and, not_or]; omega)) ?_)
      | (refine dow_st (by repeat (first | exact upd_same _ _ _ | assumption | refine upd_get (by omega) ?_)) (by first | (simp only [cellsA]; rfl) | rfl) rfl (by first | (simp; done) | exact Nat.le_refl _) rfl (by first | exact splice_all rfl | (simp only [splice, List.take_succ_cons, List.take_zero, List.drop_succ_cons, List.drop_zero, List.length_cons, List.length_nil, List.cons_append, List.nil_append, Nat.reduceAdd, Nat.zero_add, Nat.add_zero]; rfl)) (by simp only [meets, and_true]; (try (repeat' apply And.intro)); all_goals (intro z; simp only [fp_d, fp_f, List.mem_cons, List.not_mem_nil, or_false, false_or, not_false_eq_true, true_and, and_true, Bool.false_eq_true, false_and, not_or]; omega)) ?_)
      | (refine dgw_run ?_)
      | (refine dgw_tf ?_)
      | (refine dgw_ft ?_)
      | (refine dgw_un ?_))
    rw [loopK_exit, X119_0_0_eq]
    refine ⟨g1, fun x hx => ?_⟩
    rw [old x hx, List.take_of_length_le (by omega)]

theorem allN_mem {L : Nat → Cap} {H : Nat → Bool} {k q : Nat} : q ∈ allN L H k ↔ q < k ∧ (L q).r ≠ 0 ∧ H q = true := by
  simp [allN, List.mem_filter]
theorem allN_len (L : Nat → Cap) (H : Nat → Bool) (k : Nat) : (allN L H k).length ≤ k := by
  have := allR_len L H k
  simpa [allR] using this
theorem allR_length (L : Nat → Cap) (H : Nat → Bool) (k : Nat) : (allR L H k).length = (allN L H k).length := by simp [allR]

/-- Revoke: what it tells, which places go. -/
def revokeL (E : Nat) (L : Nat → Cap) (env slot : Int) : List Nat := if lookS E L env slot = 0 then allN L (belowH L env slot) (8 * E) else []

set_option maxRecDepth 20000 in
theorem revoke_ev {t B E : Nat} {L : Nat → Cap} {ρ : Nat → Nat} {h : Heap} {n : Nat} (g : Good n h) (T : TreeAt h t B E L) (hE : E ≤ 4) (R : Ranked E L ρ) (env slot : Int) :
    callW Tryz.prog 51 [.ptr t 0, .int .i64 env, .int .i64 slot] h n fun v h' n' => ∃ b, v = .tup [slV b (revokeL E L env slot).length, .int .i64 (lookS E L env slot)] ∧
      Grown n (treeH h B E (wipeL L (revokeL E L env slot))) n' h' b 2 ((revokeL E L env slot).map placeRow) := by
  have ht := T.t
  have l1 := g.lt ht
  have hB := g.lt T.b
  refine W51_ok ?_
  unfold W51
  by_cases hl : lookS E L env slot = 0
  · have er : revokeL E L env slot = allN L (belowH L env slot) (8 * E) := by simp [revokeL, hl]
    obtain ⟨v, h1, n1, hf, b, hv, G⟩ := callW_elim (below_ev g T hE R env slot)
    rw [allR_length] at hv
    have T1 := T.keep g G.old
    have hr1 : allR L (belowH L env slot) (8 * E) = (revokeL E L env slot).map placeRow := by rw [er]; rfl
    rw [hr1] at G
    rw [← er] at hv
    subst hv
    have hqs : ∀ q ∈ revokeL E L env slot, q < 8 * E := fun q hq => by rw [er] at hq; exact (allN_mem.1 hq).1
    have hlen : (revokeL E L env slot).length ≤ 32 := by rw [er]; have := allN_len L (belowH L env slot) (8 * E); omega
    have hbk : revokeL E L env slot ≠ [] → h1 b = some (.cells 2 ((revokeL E L env slot).map placeRow).flatten) := fun hne => (G.at_ (by simpa using hne)).2.2
    repeat (first
      | (refine cal (look_ev T env slot _) ?_)
      | (refine cal hf ?_)
      | (refine cal (empties_ev G.good T1 hqs hbk hlen _) ?_)
      | (refine cw_t ?_)
      | (refine cw_f ?_)
      | (refine gw_run ?_)
      | (refine gw_tf ?_)
      | (refine gw_ft ?_)
      | (refine gw_un ?_)
      | (refine ow_pick_t ?_)
      | (refine ow_pick_f ?_)
      | (refine ow_new ?_)
      | (refine ow_nck_p ?_)
      | (refine ow_nck_i ?_)
      | (refine ow_nck_f ?_)
      | (refine ow_mki ?_)
      | (refine ow_fa rfl ?_)
      | (refine ow_ext rfl ?_)
      | (refine ow_not rfl ?_)
      | (refine ow_peq_pn rfl ?_)
      | (refine ow_peq_nn rfl ?_)
      | (refine ow_peq_np rfl ?_)
      | (refine ow_ieq_in rfl ?_)
      | (refine ow_ieq_nn rfl ?_)
      | (refine ow_ieq_ni rfl ?_)
      | (refine ow_mkf rfl rfl ?_)
      | (refine ow_box (by first | (simp only [cellsA]; rfl) | rfl) ?_)
      | (refine ow_len rfl ?_)
      | (refine ow_lss_t (by omega) ?_)
      | (refine ow_lss_f (by omega) ?_)
      | (refine ow_leq_t (by omega) ?_)
      | (refine ow_leq_f (by omega) ?_)
      | (refine ow_gtr_t (by omega) ?_)
      | (refine ow_gtr_f (by omega) ?_)
      | (refine ow_geq_t (by omega) ?_)
      | (refine ow_geq_f (by omega) ?_)
      | (refine ow_eql_t (by omega) ?_)
      | (refine ow_eql_f (by omega) ?_)
      | (refine ow_neq_t (by omega) ?_)
      | (refine ow_neq_f (by omega) ?_)
      | (refine ow_add_i rfl (by omega) (by omega) ?_)
      | (refine ow_sub_i rfl (by omega) (by omega) ?_)
      | (refine ow_conv_i (by omega) (by omega) ?_)
      | (refine ow_conv_u (by omega) (by omega) ?_)
      | (refine ow_iaA (by omega) (by omega) rfl ?_)
      | (refine ow_iaS (by omega) (by omega) rfl ?_)
      | (refine ow_ld (by repeat (first | exact upd_same _ _ _ | assumption | refine upd_get (by omega) ?_)) (by first | exact part_all rfl | rfl | (simp only [partA, if_true, List.drop_succ_cons, List.drop_zero, List.take_succ_cons, List.take_zero, List.length_cons, List.length_nil, Nat.reduceAdd, Nat.zero_add]; rfl)) ?_)
      | (refine ow_st (by repeat (first | exact upd_same _ _ _ | assumption | refine upd_get (by omega) ?_)) (by first | (simp only [cellsA]; rfl) | rfl) rfl (by first | (simp; done) | exact Nat.le_refl _) rfl (by first | exact splice_all rfl | (simp only [splice, List.take_succ_cons, List.take_zero, List.drop_succ_cons, List.drop_zero, List.length_cons, List.length_nil, List.cons_append, List.nil_append, Nat.reduceAdd, Nat.zero_add, Nat.add_zero]; rfl)) ?_)
      | (refine ow_build (by simp only [repl, List.append_nil, fillA, List.map, ev, cellsA, splice, List.take_succ_cons, List.take_zero, List.drop_succ_cons, List.drop_zero, List.length_cons, List.length_nil, List.cons_append, List.nil_append, Nat.reduceAdd, Nat.zero_add, Nat.add_zero, true_and, and_self, if_true, Nat.reduceLeDiff, Nat.le_refl]; rfl) ?_)
      | (refine ow_bsl (by simp only [repl, List.append_nil, fillA, List.map, ev, cellsA, splice, List.take_succ_cons, List.take_zero, List.drop_succ_cons, List.drop_zero, List.length_cons, List.length_nil, List.cons_append, List.nil_append, Nat.reduceAdd, Nat.zero_add, Nat.add_zero, true_and, and_self, if_true, Nat.reduceLeDiff, Nat.le_refl]; rfl) ?_)
      | (refine ldR_of (by repeat (first | exact upd_same _ _ _ | assumption | refine upd_get (by omega) ?_)) (by first | exact part_all rfl | rfl | (simp only [partA, if_true, List.drop_succ_cons, List.drop_zero, List.take_succ_cons, List.take_zero, List.length_cons, List.length_nil, Nat.reduceAdd, Nat.zero_add]; rfl)) ?_)
      | (refine dow_ld (by repeat (first | exact upd_same _ _ _ | assumption | refine upd_get (by omega) ?_)) (by first | exact part_all rfl | rfl | (simp only [partA, if_true, List.drop_succ_cons, List.drop_zero, List.take_succ_cons, List.take_zero, List.length_cons, List.length_nil, Nat.reduceAdd, Nat.zero_add]; rfl)) (by simp only [meets, and_true]; (try (repeat' apply And.intro)); all_goals (intro z; simp only [fp_d, fp_f, List.mem_cons, List.not_mem_nil, or_false, false_or, not_false_eq_true, true_and, and_true, Bool.false_eq_true, false_and, not_or]; omega)) ?_)
      | (refine dow_new (by simp only [meets, and_true]; (try (repeat' apply And.intro)); all_goals (intro z; simp only [fp_d, fp_f, List.mem_cons, List.not_mem_nil, or_false, false_or, not_false_eq_true, true_and, and_true, Bool.false_eq_true, false_and, not_or]; omega)) ?_)
      | (refine dow_box (by first | (simp only [cellsA]; rfl) | rfl) (by simp only [meets, and_true]; (try (repeat' apply And.intro)); all_goals (intro z; simp only [fp_d, fp_f, List.mem_cons, List.not_mem_nil, or_false, false_or, not_false_eq_true, true_and, and_true, Bool.false_eq_true, false_and, not_or]; omega)) ?_)
      | (refine dow_st (by repeat (first | exact upd_same _ _ _ | assumption | refine upd_get (by omega) ?_)) (by first | (simp only [cellsA]; rfl) | rfl) rfl (by first | (simp; done) | exact Nat.le_refl _) rfl (by first | exact splice_all rfl | (simp only [splice, List.take_succ_cons, List.take_zero, List.drop_succ_cons, List.drop_zero, List.length_cons, List.length_nil, List.cons_append, List.nil_append, Nat.reduceAdd, Nat.zero_add, Nat.add_zero]; rfl)) (by simp only [meets, and_true]; (try (repeat' apply And.intro)); all_goals (intro z; simp only [fp_d, fp_f, List.mem_cons, List.not_mem_nil, or_false, false_or, not_false_eq_true, true_and, and_true, Bool.false_eq_true, false_and, not_or]; omega)) ?_)
      | (refine dgw_run ?_)
      | (refine dgw_tf ?_)
      | (refine dgw_ft ?_)
      | (refine dgw_un ?_))
    refine ⟨b, by rw [hl], ?_⟩
    have hle := G.le
    refine ⟨treeH_good G.good T1 _, hle, fun x hx => ?_, fun hne => ?_⟩
    · by_cases hxB : x = B
      · subst hxB; simp only [treeH, upd_same]
      · simp only [treeH, upd_ne _ _ hxB]; exact G.old x hx
    · obtain ⟨a1, a2, a3⟩ := G.at_ hne
      refine ⟨a1, a2, ?_⟩
      have : b ≠ B := by omega
      rw [treeH, upd_ne _ _ this]; exact a3
  · have er : revokeL E L env slot = [] := by simp [revokeL, hl]
    repeat (first
      | (refine cal (look_ev T env slot _) ?_)
      | (refine cw_t ?_)
      | (refine cw_f ?_)
      | (refine gw_run ?_)
      | (refine gw_tf ?_)
      | (refine gw_ft ?_)
      | (refine gw_un ?_)
      | (refine ow_pick_t ?_)
      | (refine ow_pick_f ?_)
      | (refine ow_new ?_)
      | (refine ow_nck_p ?_)
      | (refine ow_nck_i ?_)
      | (refine ow_nck_f ?_)
      | (refine ow_mki ?_)
      | (refine ow_fa rfl ?_)
      | (refine ow_ext rfl ?_)
      | (refine ow_not rfl ?_)
      | (refine ow_peq_pn rfl ?_)
      | (refine ow_peq_nn rfl ?_)
      | (refine ow_peq_np rfl ?_)
      | (refine ow_ieq_in rfl ?_)
      | (refine ow_ieq_nn rfl ?_)
      | (refine ow_ieq_ni rfl ?_)
      | (refine ow_mkf rfl rfl ?_)
      | (refine ow_box (by first | (simp only [cellsA]; rfl) | rfl) ?_)
      | (refine ow_len rfl ?_)
      | (refine ow_lss_t (by omega) ?_)
      | (refine ow_lss_f (by omega) ?_)
      | (refine ow_leq_t (by omega) ?_)
      | (refine ow_leq_f (by omega) ?_)
      | (refine ow_gtr_t (by omega) ?_)
      | (refine ow_gtr_f (by omega) ?_)
      | (refine ow_geq_t (by omega) ?_)
      | (refine ow_geq_f (by omega) ?_)
      | (refine ow_eql_t (by omega) ?_)
      | (refine ow_eql_f (by omega) ?_)
      | (refine ow_neq_t (by omega) ?_)
      | (refine ow_neq_f (by omega) ?_)
      | (refine ow_add_i rfl (by omega) (by omega) ?_)
      | (refine ow_sub_i rfl (by omega) (by omega) ?_)
      | (refine ow_conv_i (by omega) (by omega) ?_)
      | (refine ow_conv_u (by omega) (by omega) ?_)
      | (refine ow_iaA (by omega) (by omega) rfl ?_)
      | (refine ow_iaS (by omega) (by omega) rfl ?_)
      | (refine ow_ld (by repeat (first | exact upd_same _ _ _ | assumption | refine upd_get (by omega) ?_)) (by first | exact part_all rfl | rfl | (simp only [partA, if_true, List.drop_succ_cons, List.drop_zero, List.take_succ_cons, List.take_zero, List.length_cons, List.length_nil, Nat.reduceAdd, Nat.zero_add]; rfl)) ?_)
      | (refine ow_st (by repeat (first | exact upd_same _ _ _ | assumption | refine upd_get (by omega) ?_)) (by first | (simp only [cellsA]; rfl) | rfl) rfl (by first | (simp; done) | exact Nat.le_refl _) rfl (by first | exact splice_all rfl | (simp only [splice, List.take_succ_cons, List.take_zero, List.drop_succ_cons, List.drop_zero, List.length_cons, List.length_nil, List.cons_append, List.nil_append, Nat.reduceAdd, Nat.zero_add, Nat.add_zero]; rfl)) ?_)
      | (refine ow_build (by simp only [repl, List.append_nil, fillA, List.map, ev, cellsA, splice, List.take_succ_cons, List.take_zero, List.drop_succ_cons, List.drop_zero, List.length_cons, List.length_nil, List.cons_append, List.nil_append, Nat.reduceAdd, Nat.zero_add, Nat.add_zero, true_and, and_self, if_true, Nat.reduceLeDiff, Nat.le_refl]; rfl) ?_)
      | (refine ow_bsl (by simp only [repl, List.append_nil, fillA, List.map, ev, cellsA, splice, List.take_succ_cons, List.take_zero, List.drop_succ_cons, List.drop_zero, List.length_cons, List.length_nil, List.cons_append, List.nil_append, Nat.reduceAdd, Nat.zero_add, Nat.add_zero, true_and, and_self, if_true, Nat.reduceLeDiff, Nat.le_refl]; rfl) ?_)
      | (refine ldR_of (by repeat (first | exact upd_same _ _ _ | assumption | refine upd_get (by omega) ?_)) (by first | exact part_all rfl | rfl | (simp only [partA, if_true, List.drop_succ_cons, List.drop_zero, List.take_succ_cons, List.take_zero, List.length_cons, List.length_nil, Nat.reduceAdd, Nat.zero_add]; rfl)) ?_)
      | (refine dow_ld (by repeat (first | exact upd_same _ _ _ | assumption | refine upd_get (by omega) ?_)) (by first | exact part_all rfl | rfl | (simp only [partA, if_true, List.drop_succ_cons, List.drop_zero, List.take_succ_cons, List.take_zero, List.length_cons, List.length_nil, Nat.reduceAdd, Nat.zero_add]; rfl)) (by simp only [meets, and_true]; (try (repeat' apply And.intro)); all_goals (intro z; simp only [fp_d, fp_f, List.mem_cons, List.not_mem_nil, or_false, false_or, not_false_eq_true, true_and, and_true, Bool.false_eq_true, false_and, not_or]; omega)) ?_)
      | (refine dow_new (by simp only [meets, and_true]; (try (repeat' apply And.intro)); all_goals (intro z; simp only [fp_d, fp_f, List.mem_cons, List.not_mem_nil, or_false, false_or, not_false_eq_true, true_and, and_true, Bool.false_eq_true, false_and, not_or]; omega)) ?_)
      | (refine dow_box (by first | (simp only [cellsA]; rfl) | rfl) (by simp only [meets, and_true]; (try (repeat' apply And.intro)); all_goals (intro z; simp only [fp_d, fp_f, List.mem_cons, List.not_mem_nil, or_false, false_or, not_false_eq_true, true_and, and_true, Bool.false_eq_true, false_and, not_or]; omega)) ?_)
      | (refine dow_st (by repeat (first | exact upd_same _ _ _ | assumption | refine upd_get (by omega) ?_)) (by first | (simp only [cellsA]; rfl) | rfl) rfl (by first | (simp; done) | exact Nat.le_refl _) rfl (by first | exact splice_all rfl | (simp only [splice, List.take_succ_cons, List.take_zero, List.drop_succ_cons, List.drop_zero, List.length_cons, List.length_nil, List.cons_append, List.nil_append, Nat.reduceAdd, Nat.zero_add, Nat.add_zero]; rfl)) (by simp only [meets, and_true]; (try (repeat' apply And.intro)); all_goals (intro z; simp only [fp_d, fp_f, List.mem_cons, List.not_mem_nil, or_false, false_or, not_false_eq_true, true_and, and_true, Bool.false_eq_true, false_and, not_or]; omega)) ?_)
      | (refine dgw_run ?_)
      | (refine dgw_tf ?_)
      | (refine dgw_ft ?_)
      | (refine dgw_un ?_))
    rw [er, wipe_nil, T.self]
    exact ⟨0, rfl, g, Nat.le_refl _, fun _ _ => rfl, fun h => absurd rfl h⟩

def dropH (L : Nat → Cap) (env slot : Int) (q : Nat) : Bool := (decide (((q / 8 : Nat) : Int) = env) && decide (((q % 8 : Nat) : Int) = slot)) || undN 32 L (L q) env slot
def dropL (E : Nat) (L : Nat → Cap) (env slot : Int) : List Nat := if lookS E L env slot = 0 then allN L (dropH L env slot) (8 * E) else []

set_option maxRecDepth 20000 in
theorem drop_ev {t B E : Nat} {L : Nat → Cap} {ρ : Nat → Nat} {h : Heap} {n : Nat} (g : Good n h) (T : TreeAt h t B E L) (hE : E ≤ 4) (R : Ranked E L ρ) (env slot : Int) :
    callW Tryz.prog 52 [.ptr t 0, .int .i64 env, .int .i64 slot] h n fun v h' n' => ∃ b, v = .tup [slV b (dropL E L env slot).length, .int .i64 (lookS E L env slot)] ∧
      Grown n (treeH h B E (wipeL L (dropL E L env slot))) n' h' b 2 ((dropL E L env slot).map placeRow) := by
  have ht := T.t
  have l1 := g.lt ht
  have hB := g.lt T.b
  refine W52_ok ?_
  unfold W52
  by_cases hl : lookS E L env slot = 0
  · have er : dropL E L env slot = allN L (dropH L env slot) (8 * E) := by simp [dropL, hl]
    have keep0 : ∀ x, x < n → (upd h n (some (.cells 0 [.ptr t 0]))) x = h x := fun x hx => upd_get (by omega) rfl
    have g3 : Good (n + 1 + 1) (upd (upd (upd h n (some (.cells 0 [.ptr t 0]))) (n + 1) (some (.cells 0 [.int .i64 0, .int .i64 0]))) (n + 1) (some (.cells 0 [.int .i64 env, .int .i64 slot]))) := (by repeat (first | exact Good.mono (by assumption) (by omega) | (refine Good.upd ?_ (by omega) (by first | rfl | (refine belowL_mono ?_ _ (by assumption); omega) | (simp [belowB, belowL, below]; (try omega))))))
    have keep : ∀ x, x < n → (upd (upd (upd h n (some (.cells 0 [.ptr t 0]))) (n + 1) (some (.cells 0 [.int .i64 0, .int .i64 0]))) (n + 1) (some (.cells 0 [.int .i64 env, .int .i64 slot]))) x = h x := fun x hx => by repeat (first | rfl | refine upd_get (by omega) ?_)
    obtain ⟨v, h1, n1, hf, b, hv, G⟩ := callW_elim (all_ev g3 (T.keep g keep) hE (f := 121) (caps := [.ptr (n + 1) 0, .ptr n 0]) (H := dropH L env slot) fun h1 n1 g1 hn1 hk q hq _ => by
      refine dropC_ev g1 ((T.keep g keep).keep g3 hk) R (pe := env) (ps := slot) ?_ ?_ hq n1
      · rw [hk n (by omega)]; exact (by repeat (first | exact upd_same _ _ _ | assumption | refine upd_get (by omega) ?_))
      · rw [hk (n + 1) (by omega)]; exact (by repeat (first | exact upd_same _ _ _ | assumption | refine upd_get (by omega) ?_)))
    rw [allR_length] at hv
    have T1 := (T.keep g keep).keep g3 G.old
    have hr1 : allR L (dropH L env slot) (8 * E) = (dropL E L env slot).map placeRow := by rw [er]; rfl
    rw [hr1] at G
    rw [← er] at hv
    subst hv
    have hqs : ∀ q ∈ dropL E L env slot, q < 8 * E := fun q hq => by rw [er] at hq; exact (allN_mem.1 hq).1
    have hlen : (dropL E L env slot).length ≤ 32 := by rw [er]; have := allN_len L (dropH L env slot) (8 * E); omega
    have hbk : dropL E L env slot ≠ [] → h1 b = some (.cells 2 ((dropL E L env slot).map placeRow).flatten) := fun hne => (G.at_ (by simpa using hne)).2.2
    have hle := G.le
    have T0 := T.keep g keep0
    repeat (first
      | (refine cal (look_ev T0 env slot _) ?_)
      | (refine dcal [] hf (fun x hx => g3.none hx) (fun x hx => G.good.none hx) (fun _ h => by cases h) (fun x hx _ => G.old x hx) (by simp only [meets, and_true]; (try (repeat' apply And.intro)); all_goals (intro z; simp only [fp_d, fp_f, List.mem_cons, List.not_mem_nil, or_false, false_or, not_false_eq_true, true_and, and_true, Bool.false_eq_true, false_and, not_or]; omega)) ?_)
      | (refine dcal [B] (empties_ev G.good T1 hqs hbk hlen _) (fun x hx => G.good.none hx) (fun x hx => (treeH_good G.good T1 _).none hx) (fun x hx => by { rw [List.mem_singleton] at hx; subst hx; exact ⟨by omega, by rw [T1.b]; rfl⟩ }) (fun x hx hn => upd_ne _ _ (by simpa using hn)) (by simp only [meets, and_true]; (try (repeat' apply And.intro)); all_goals (intro z; simp only [fp_d, fp_f, List.mem_cons, List.not_mem_nil, or_false, false_or, not_false_eq_true, true_and, and_true, Bool.false_eq_true, false_and, not_or]; omega)) ?_)
      | (refine cw_t ?_)
      | (refine cw_f ?_)
      | (refine gw_run ?_)
      | (refine gw_tf ?_)
      | (refine gw_ft ?_)
      | (refine gw_un ?_)
      | (refine ow_pick_t ?_)
      | (refine ow_pick_f ?_)
      | (refine ow_new ?_)
      | (refine ow_nck_p ?_)
      | (refine ow_nck_i ?_)
      | (refine ow_nck_f ?_)
      | (refine ow_mki ?_)
      | (refine ow_fa rfl ?_)
      | (refine ow_ext rfl ?_)
      | (refine ow_not rfl ?_)
      | (refine ow_peq_pn rfl ?_)
      | (refine ow_peq_nn rfl ?_)
      | (refine ow_peq_np rfl ?_)
      | (refine ow_ieq_in rfl ?_)
      | (refine ow_ieq_nn rfl ?_)
      | (refine ow_ieq_ni rfl ?_)
      | (refine ow_mkf rfl rfl ?_)
      | (refine ow_box (by first | (simp only [cellsA]; rfl) | rfl) ?_)
      | (refine ow_len rfl ?_)
      | (refine ow_lss_t (by omega) ?_)
      | (refine ow_lss_f (by omega) ?_)
      | (refine ow_leq_t (by omega) ?_)
      | (refine ow_leq_f (by omega) ?_)
      | (refine ow_gtr_t (by omega) ?_)
      | (refine ow_gtr_f (by omega) ?_)
      | (refine ow_geq_t (by omega) ?_)
      | (refine ow_geq_f (by omega) ?_)
      | (refine ow_eql_t (by omega) ?_)
      | (refine ow_eql_f (by omega) ?_)
      | (refine ow_neq_t (by omega) ?_)
      | (refine ow_neq_f (by omega) ?_)
      | (refine ow_add_i rfl (by omega) (by omega) ?_)
      | (refine ow_sub_i rfl (by omega) (by omega) ?_)
      | (refine ow_conv_i (by omega) (by omega) ?_)
      | (refine ow_conv_u (by omega) (by omega) ?_)
      | (refine ow_iaA (by omega) (by omega) rfl ?_)
      | (refine ow_iaS (by omega) (by omega) rfl ?_)
      | (refine ow_ld (by repeat (first | exact upd_same _ _ _ | assumption | refine upd_get (by omega) ?_)) (by first | exact part_all rfl | rfl | (simp only [partA, if_true, List.drop_succ_cons, List.drop_zero, List.take_succ_cons, List.take_zero, List.length_cons, List.length_nil, Nat.reduceAdd, Nat.zero_add]; rfl)) ?_)
      | (refine ow_st (by repeat (first | exact upd_same _ _ _ | assumption | refine upd_get (by omega) ?_)) (by first | (simp only [cellsA]; rfl) | rfl) rfl (by first | (simp; done) | exact Nat.le_refl _) rfl (by first | exact splice_all rfl | (simp only [splice, List.take_succ_cons, List.take_zero, List.drop_succ_cons, List.drop_zero, List.length_cons, List.length_nil, List.cons_append, List.nil_append, Nat.reduceAdd, Nat.zero_add, Nat.add_zero]; rfl)) ?_)
      | (refine ow_build (by simp only [repl, List.append_nil, fillA, List.map, ev, cellsA, splice, List.take_succ_cons, List.take_zero, List.drop_succ_cons, List.drop_zero, List.length_cons, List.length_nil, List.cons_append, List.nil_append, Nat.reduceAdd, Nat.zero_add, Nat.add_zero, true_and, and_self, if_true, Nat.reduceLeDiff, Nat.le_refl]; rfl) ?_)
      | (refine ow_bsl (by simp only [repl, List.append_nil, fillA, List.map, ev, cellsA, splice, List.take_succ_cons, List.take_zero, List.drop_succ_cons, List.drop_zero, List.length_cons, List.length_nil, List.cons_append, List.nil_append, Nat.reduceAdd, Nat.zero_add, Nat.add_zero, true_and, and_self, if_true, Nat.reduceLeDiff, Nat.le_refl]; rfl) ?_)
      | (refine ldR_of (by repeat (first | exact upd_same _ _ _ | assumption | refine upd_get (by omega) ?_)) (by first | exact part_all rfl | rfl | (simp only [partA, if_true, List.drop_succ_cons, List.drop_zero, List.take_succ_cons, List.take_zero, List.length_cons, List.length_nil, Nat.reduceAdd, Nat.zero_add]; rfl)) ?_)
      | (refine dow_ld (by repeat (first | exact upd_same _ _ _ | assumption | refine upd_get (by omega) ?_)) (by first | exact part_all rfl | rfl | (simp only [partA, if_true, List.drop_succ_cons, List.drop_zero, List.take_succ_cons, List.take_zero, List.length_cons, List.length_nil, Nat.reduceAdd, Nat.zero_add]; rfl)) (by simp only [meets, and_true]; (try (repeat' apply And.intro)); all_goals (intro z; simp only [fp_d, fp_f, List.mem_cons, List.not_mem_nil, or_false, false_or, not_false_eq_true, true_and, and_true, Bool.false_eq_true, false_and, not_or]; omega)) ?_)
      | (refine dow_new (by simp only [meets, and_true]; (try (repeat' apply And.intro)); all_goals (intro z; simp only [fp_d, fp_f, List.mem_cons, List.not_mem_nil, or_false, false_or, not_false_eq_true, true_and, and_true, Bool.false_eq_true, false_and, not_or]; omega)) ?_)
      | (refine dow_box (by first | (simp only [cellsA]; rfl) | rfl) (by simp only [meets, and_true]; (try (repeat' apply And.intro)); all_goals (intro z; simp only [fp_d, fp_f, List.mem_cons, List.not_mem_nil, or_false, false_or, not_false_eq_true, true_and, and_true, Bool.false_eq_true, false_and, not_or]; omega)) ?_)
      | (refine dow_st (by repeat (first | exact upd_same _ _ _ | assumption | refine upd_get (by omega) ?_)) (by first | (simp only [cellsA]; rfl) | rfl) rfl (by first | (simp; done) | exact Nat.le_refl _) rfl (by first | exact splice_all rfl | (simp only [splice, List.take_succ_cons, List.take_zero, List.drop_succ_cons, List.drop_zero, List.length_cons, List.length_nil, List.cons_append, List.nil_append, Nat.reduceAdd, Nat.zero_add, Nat.add_zero]; rfl)) (by simp only [meets, and_true]; (try (repeat' apply And.intro)); all_goals (intro z; simp only [fp_d, fp_f, List.mem_cons, List.not_mem_nil, or_false, false_or, not_false_eq_true, true_and, and_true, Bool.false_eq_true, false_and, not_or]; omega)) ?_)
      | (refine dgw_run ?_)
      | (refine dgw_tf ?_)
      | (refine dgw_ft ?_)
      | (refine dgw_un ?_))
    refine ⟨b, by rw [hl], treeH_good G.good T1 _, by omega, fun x hx => ?_, fun hne => ?_⟩
    · by_cases hxB : x = B
      · subst hxB; simp only [treeH, upd_same]
      · simp only [treeH, upd_ne _ _ hxB]; rw [G.old x (by omega), keep x hx]
    · obtain ⟨a1, a2, a3⟩ := G.at_ hne
      refine ⟨by omega, a2, ?_⟩
      have : b ≠ B := by omega
      rw [treeH, upd_ne _ _ this]; exact a3
  · have er : dropL E L env slot = [] := by simp [dropL, hl]
    have keep0 : ∀ x, x < n → (upd h n (some (.cells 0 [.ptr t 0]))) x = h x := fun x hx => upd_get (by omega) rfl
    have T0 := T.keep g keep0
    repeat (first
      | (refine cal (look_ev T0 env slot _) ?_)
      | (refine cw_t ?_)
      | (refine cw_f ?_)
      | (refine gw_run ?_)
      | (refine gw_tf ?_)
      | (refine gw_ft ?_)
      | (refine gw_un ?_)
      | (refine ow_pick_t ?_)
      | (refine ow_pick_f ?_)
      | (refine ow_new ?_)
      | (refine ow_nck_p ?_)
      | (refine ow_nck_i ?_)
      | (refine ow_nck_f ?_)
      | (refine ow_mki ?_)
      | (refine ow_fa rfl ?_)
      | (refine ow_ext rfl ?_)
      | (refine ow_not rfl ?_)
      | (refine ow_peq_pn rfl ?_)
      | (refine ow_peq_nn rfl ?_)
      | (refine ow_peq_np rfl ?_)
      | (refine ow_ieq_in rfl ?_)
      | (refine ow_ieq_nn rfl ?_)
      | (refine ow_ieq_ni rfl ?_)
      | (refine ow_mkf rfl rfl ?_)
      | (refine ow_box (by first | (simp only [cellsA]; rfl) | rfl) ?_)
      | (refine ow_len rfl ?_)
      | (refine ow_lss_t (by omega) ?_)
      | (refine ow_lss_f (by omega) ?_)
      | (refine ow_leq_t (by omega) ?_)
      | (refine ow_leq_f (by omega) ?_)
      | (refine ow_gtr_t (by omega) ?_)
      | (refine ow_gtr_f (by omega) ?_)
      | (refine ow_geq_t (by omega) ?_)
      | (refine ow_geq_f (by omega) ?_)
      | (refine ow_eql_t (by omega) ?_)
      | (refine ow_eql_f (by omega) ?_)
      | (refine ow_neq_t (by omega) ?_)
      | (refine ow_neq_f (by omega) ?_)
      | (refine ow_add_i rfl (by omega) (by omega) ?_)
      | (refine ow_sub_i rfl (by omega) (by omega) ?_)
      | (refine ow_conv_i (by omega) (by omega) ?_)
      | (refine ow_conv_u (by omega) (by omega) ?_)
      | (refine ow_iaA (by omega) (by omega) rfl ?_)
      | (refine ow_iaS (by omega) (by omega) rfl ?_)
      | (refine ow_ld (by repeat (first | exact upd_same _ _ _ | assumption | refine upd_get (by omega) ?_)) (by first | exact part_all rfl | rfl | (simp only [partA, if_true, List.drop_succ_cons, List.drop_zero, List.take_succ_cons, List.take_zero, List.length_cons, List.length_nil, Nat.reduceAdd, Nat.zero_add]; rfl)) ?_)
      | (refine ow_st (by repeat (first | exact upd_same _ _ _ | assumption | refine upd_get (by omega) ?_)) (by first | (simp only [cellsA]; rfl) | rfl) rfl (by first | (simp; done) | exact Nat.le_refl _) rfl (by first | exact splice_all rfl | (simp only [splice, List.take_succ_cons, List.take_zero, List.drop_succ_cons, List.drop_zero, List.length_cons, List.length_nil, List.cons_append, List.nil_append, Nat.reduceAdd, Nat.zero_add, Nat.add_zero]; rfl)) ?_)
      | (refine ow_build (by simp only [repl, List.append_nil, fillA, List.map, ev, cellsA, splice, List.take_succ_cons, List.take_zero, List.drop_succ_cons, List.drop_zero, List.length_cons, List.length_nil, List.cons_append, List.nil_append, Nat.reduceAdd, Nat.zero_add, Nat.add_zero, true_and, and_self, if_true, Nat.reduceLeDiff, Nat.le_refl]; rfl) ?_)
      | (refine ow_bsl (by simp only [repl, List.append_nil, fillA, List.map, ev, cellsA, splice, List.take_succ_cons, List.take_zero, List.drop_succ_cons, List.drop_zero, List.length_cons, List.length_nil, List.cons_append, List.nil_append, Nat.reduceAdd, Nat.zero_add, Nat.add_zero, true_and, and_self, if_true, Nat.reduceLeDiff, Nat.le_refl]; rfl) ?_)
      | (refine ldR_of (by repeat (first | exact upd_same _ _ _ | assumption | refine upd_get (by omega) ?_)) (by first | exact part_all rfl | rfl | (simp only [partA, if_true, List.drop_succ_cons, List.drop_zero, List.take_succ_cons, List.take_zero, List.length_cons, List.length_nil, Nat.reduceAdd, Nat.zero_add]; rfl)) ?_)
      | (refine dow_ld (by repeat (first | exact upd_same _ _ _ | assumption | refine upd_get (by omega) ?_)) (by first | exact part_all rfl | rfl | (simp only [partA, if_true, List.drop_succ_cons, List.drop_zero, List.take_succ_cons, List.take_zero, List.length_cons, List.length_nil, Nat.reduceAdd, Nat.zero_add]; rfl)) (by simp only [meets, and_true]; (try (repeat' apply And.intro)); all_goals (intro z; simp only [fp_d, fp_f, List.mem_cons, List.not_mem_nil, or_false, false_or, not_false_eq_true, true_and, and_true, Bool.false_eq_true, false_and, not_or]; omega)) ?_)
      | (refine dow_new (by simp only [meets, and_true]; (try (repeat' apply And.intro)); all_goals (intro z; simp only [fp_d, fp_f, List.mem_cons, List.not_mem_nil, or_false, false_or, not_false_eq_true, true_and, and_true, Bool.false_eq_true, false_and, not_or]; omega)) ?_)
      | (refine dow_box (by first | (simp only [cellsA]; rfl) | rfl) (by simp only [meets, and_true]; (try (repeat' apply And.intro)); all_goals (intro z; simp only [fp_d, fp_f, List.mem_cons, List.not_mem_nil, or_false, false_or, not_false_eq_true, true_and, and_true, Bool.false_eq_true, false_and, not_or]; omega)) ?_)
      | (refine dow_st (by repeat (first | exact upd_same _ _ _ | assumption | refine upd_get (by omega) ?_)) (by first | (simp only [cellsA]; rfl) | rfl) rfl (by first | (simp; done) | exact Nat.le_refl _) rfl (by first | exact splice_all rfl | (simp only [splice, List.take_succ_cons, List.take_zero, List.drop_succ_cons, List.drop_zero, List.length_cons, List.length_nil, List.cons_append, List.nil_append, Nat.reduceAdd, Nat.zero_add, Nat.add_zero]; rfl)) (by simp only [meets, and_true]; (try (repeat' apply And.intro)); all_goals (intro z; simp only [fp_d, fp_f, List.mem_cons, List.not_mem_nil, or_false, false_or, not_false_eq_true, true_and, and_true, Bool.false_eq_true, false_and, not_or]; omega)) ?_)
      | (refine dgw_run ?_)
      | (refine dgw_tf ?_)
      | (refine dgw_ft ?_)
      | (refine dgw_un ?_))
    rw [er, wipe_nil, T.self]
    exact ⟨0, rfl, (by repeat (first | exact Good.mono (by assumption) (by omega) | (refine Good.upd ?_ (by omega) (by first | rfl | (refine belowL_mono ?_ _ (by assumption); omega) | (simp [belowB, belowL, below]; (try omega)))))), by omega, keep0, fun h => absurd rfl h⟩
end Go.Proofs.As0
/- Contracts: a new tree; what a law does with trees. -/
namespace Go.Proofs.As0
open Go Go.Eng
attribute [local irreducible] opW callW cvW invW grdW cndW ldR dopW dcallW dcvW dgrdW loopW

theorem TreeAt.grown {n n1 b e t B E : Nat} {h h1 : Heap} {L : Nat → Cap} {rows : List (List AV)} (g : Good n h) (T : TreeAt h t B E L) (G : Grown n h n1 h1 b e rows) : TreeAt h1 t B E L := T.keep g G.old
theorem TreeAt.grown2 {n n1 b e t B E : Nat} {h h1 : Heap} {L L' : Nat → Cap} {rows : List (List AV)} (g : Good n h) (T : TreeAt h t B E L) (G : Grown n (treeH h B E L') n1 h1 b e rows) : TreeAt h1 t B E L' :=
  (T.put L').keep (treeH_good g T L') G.old

theorem Ranked.wipe {E : Nat} {L : Nat → Cap} {ρ : Nat → Nat} (R : Ranked E L ρ) (l : List Nat) : Ranked E (wipeL L l) ρ := by
  refine ⟨R.lt, fun q hq hr he => ?_⟩
  unfold wipeL at hr he ⊢
  by_cases h : q ∈ l
  · simp [h, cap0] at hr
  · simp only [h, if_false] at hr he ⊢
    exact R.par q hq hr he

/-- A new tree. -/
def newTree (h : Heap) (n E : Nat) : Heap := upd (upd h n (some (.cells 32 (enc Cap.row (8 * E) fun _ => cap0)))) (n + 1) (some (.cells 0 [.sl n 0 0 E (some E)]))

theorem newTree_at (h : Heap) (n E : Nat) : TreeAt (newTree h n E) (n + 1) n E fun _ => cap0 :=
  ⟨by unfold newTree; simp, by unfold newTree; rw [upd_ne _ _ (by omega)]; simp⟩
theorem newTree_good {h : Heap} {n : Nat} (g : Good n h) (E : Nat) : Good (n + 2) (newTree h n E) := by
  unfold newTree
  refine Good.upd (Good.upd (g.mono (by omega)) (by omega) (show belowB _ (.cells 32 _) = true from cap_below _)) (by omega) ?_
  simp [belowB, belowL, below]

theorem zeros_row : ∀ E : Nat, repl (enc Cap.row 8 fun _ => cap0) E = enc Cap.row (8 * E) fun _ => cap0
  | 0 => rfl
  | E + 1 => by
    rw [show repl (enc Cap.row 8 fun _ => cap0) (E + 1) = enc Cap.row 8 (fun _ => cap0) ++ repl (enc Cap.row 8 fun _ => cap0) E from rfl, zeros_row E]
    have key : ∀ a b : Nat, enc Cap.row a (fun _ => cap0) ++ enc Cap.row b (fun _ => cap0) = enc Cap.row (a + b) fun _ => cap0 := by
      intro a b
      induction b with
      | zero => simp [enc_zero]
      | succ b ih => rw [enc_succ, ← List.append_assoc, ih, ← Nat.add_assoc, enc_succ]
    rw [key]
    congr 1; omega

theorem newTree_ev {E : Nat} (h1 : 1 ≤ E) (h4 : E ≤ 4) (h : Heap) (n : Nat) : FEv Tryz.prog 47 [.int .i64 (E : Int)] h n (.ptr (n + 1) 0) (newTree h n E) (n + 2) := by
  refine fev_exact (W47_ok ?_)
  unfold W47
  repeat (first
    | (refine ow_mks (by omega) (by omega) (by omega) (by omega) rfl ?_)
    | (refine cw_t ?_)
    | (refine cw_f ?_)
    | (refine gw_run ?_)
    | (refine gw_tf ?_)
    | (refine gw_ft ?_)
    | (refine gw_un ?_)
    | (refine ow_pick_t ?_)
    | (refine ow_pick_f ?_)
    | (refine ow_new ?_)
    | (refine ow_nck_p ?_)
    | (refine ow_nck_i ?_)
    | (refine ow_nck_f ?_)
    | (refine ow_mki ?_)
    | (refine ow_fa rfl ?_)
    | (refine ow_ext rfl ?_)
    | (refine ow_not rfl ?_)
    | (refine ow_peq_pn rfl ?_)
    | (refine ow_peq_nn rfl ?_)
    | (refine ow_peq_np rfl ?_)
    | (refine ow_ieq_in rfl ?_)
    | (refine ow_ieq_nn rfl ?_)
    | (refine ow_ieq_ni rfl ?_)
    | (refine ow_mkf rfl rfl ?_)
    | (refine ow_box (by first | (simp only [cellsA]; rfl) | rfl) ?_)
    | (refine ow_len rfl ?_)
    | (refine ow_lss_t (by omega) ?_)
    | (refine ow_lss_f (by omega) ?_)
    | (refine ow_leq_t (by omega) ?_)
    | (refine ow_leq_f (by omega) ?_)
    | (refine ow_gtr_t (by omega) ?_)
    | (refine ow_gtr_f (by omega) ?_)
    | (refine ow_geq_t (by omega) ?_)
    | (refine ow_geq_f (by omega) ?_)
    | (refine ow_eql_t (by omega) ?_)
    | (refine ow_eql_f (by omega) ?_)
    | (refine ow_neq_t (by omega) ?_)
    | (refine ow_neq_f (by omega) ?_)
    | (refine ow_add_i rfl (by omega) (by omega) ?_)
    | (refine ow_sub_i rfl (by omega) (by omega) ?_)
    | (refine ow_conv_i (by omega) (by omega) ?_)
    | (refine ow_conv_u (by omega) (by omega) ?_)
    | (refine ow_iaA (by omega) (by omega) rfl ?_)
    | (refine ow_iaS (by omega) (by omega) rfl ?_)
    | (refine ow_ld (by repeat (first | exact upd_same _ _ _ | assumption | refine upd_get (by omega) ?_)) (by first | exact part_all rfl | rfl | (simp only [partA, if_true, List.drop_succ_cons, List.drop_zero, List.take_succ_cons, List.take_zero, List.length_cons, List.length_nil, Nat.reduceAdd, Nat.zero_add]; rfl)) ?_)
    | (refine ow_st (by repeat (first | exact upd_same _ _ _ | assumption | refine upd_get (by omega) ?_)) (by first | (simp only [cellsA]; rfl) | rfl) rfl (by first | (simp; done) | exact Nat.le_refl _) rfl (by first | exact splice_all rfl | (simp only [splice, List.take_succ_cons, List.take_zero, List.drop_succ_cons, List.drop_zero, List.length_cons, List.length_nil, List.cons_append, List.nil_append, Nat.reduceAdd, Nat.zero_add, Nat.add_zero]; rfl)) ?_)
    | (refine ow_build (by simp only [repl, List.append_nil, fillA, List.map, ev, cellsA, splice, List.take_succ_cons, List.take_zero, List.drop_succ_cons, List.drop_zero, List.length_cons, List.length_nil, List.cons_append, List.nil_append, Nat.reduceAdd, Nat.zero_add, Nat.add_zero, true_and, and_self, if_true, Nat.reduceLeDiff, Nat.le_refl]; rfl) ?_)
    | (refine ow_bsl (by simp only [repl, List.append_nil, fillA, List.map, ev, cellsA, splice, List.take_succ_cons, List.take_zero, List.drop_succ_cons, List.drop_zero, List.length_cons, List.length_nil, List.cons_append, List.nil_append, Nat.reduceAdd, Nat.zero_add, Nat.add_zero, true_and, and_self, if_true, Nat.reduceLeDiff, Nat.le_refl]; rfl) ?_)
    | (refine ldR_of (by repeat (first | exact upd_same _ _ _ | assumption | refine upd_get (by omega) ?_)) (by first | exact part_all rfl | rfl | (simp only [partA, if_true, List.drop_succ_cons, List.drop_zero, List.take_succ_cons, List.take_zero, List.length_cons, List.length_nil, Nat.reduceAdd, Nat.zero_add]; rfl)) ?_)
    | (refine dow_ld (by repeat (first | exact upd_same _ _ _ | assumption | refine upd_get (by omega) ?_)) (by first | exact part_all rfl | rfl | (simp only [partA, if_true, List.drop_succ_cons, List.drop_zero, List.take_succ_cons, List.take_zero, List.length_cons, List.length_nil, Nat.reduceAdd, Nat.zero_add]; rfl)) (by simp only [meets, and_true]; (try (repeat' apply And.intro)); all_goals (intro z; simp only [fp_d, fp_f, List.mem_cons, List.not_mem_nil, or_false, false_or, not_false_eq_true, true_and, and_true, Bool.false_eq_true, false_and, not_or]; omega)) ?_)
    | (refine dow_new (by simp only [meets, and_true]; (try (repeat' apply And.intro)); all_goals (intro z; simp only [fp_d, fp_f, List.mem_cons, List.not_mem_nil, or_false, false_or, not_false_eq_true, true_and, and_true, Bool.false_eq_true, false_and, not_or]; omega)) ?_)
    | (refine dow_box (by first | (simp only [cellsA]; rfl) | rfl) (by simp only [meets, and_true]; (try (repeat' apply And.intro)); all_goals (intro z; simp only [fp_d, fp_f, List.mem_cons, List.not_mem_nil, or_false, false_or, not_false_eq_true, true_and, and_true, Bool.false_eq_true, false_and, not_or]; omega)) ?_)
    | (refine dow_st (by repeat (first | exact upd_same _ _ _ | assumption | refine upd_get (by omega) ?_)) (by first | (simp only [cellsA]; rfl) | rfl) rfl (by first | (simp; done) | exact Nat.le_refl _) rfl (by first | exact splice_all rfl | (simp only [splice, List.take_succ_cons, List.take_zero, List.drop_succ_cons, List.drop_zero, List.length_cons, List.length_nil, List.cons_append, List.nil_append, Nat.reduceAdd, Nat.zero_add, Nat.add_zero]; rfl)) (by simp only [meets, and_true]; (try (repeat' apply And.intro)); all_goals (intro z; simp only [fp_d, fp_f, List.mem_cons, List.not_mem_nil, or_false, false_or, not_false_eq_true, true_and, and_true, Bool.false_eq_true, false_and, not_or]; omega)) ?_)
    | (refine dgw_run ?_)
    | (refine dgw_tf ?_)
    | (refine dgw_ft ?_)
    | (refine dgw_un ?_))
  refine ⟨rfl, ?_, rfl⟩
  unfold newTree
  have : ((E : Int)).toNat = E := by omega
  rw [this, ← zeros_row E]
  rfl
end Go.Proofs.As0
/- Functions of the program, as they are to be shown: printed by Gen.lean. -/
namespace Go.Proofs.As0
open Go Go.Eng
/-! ### 11: messuage/messuagelaw11.CapsChain -/
/-- The loop 0's body. -/
noncomputable def B11_0 (κ : KC) (g : Nat → AV) (h : Heap) (n : Nat) : Prop :=
 opW Tryz.prog (.bin .lss (.c (g 9)) (.c (g 0))) h n fun t39 h n =>
 cndW t39
  (opW Tryz.prog (.bin .sub (.c (g 9)) (.c (.int .i64 1))) h n fun t44 h n =>
  opW Tryz.prog (.bin .rem (.c t44) (.c (.int .i64 2))) h n fun t45 h n =>
  opW Tryz.prog (.bin .sub (.c (g 9)) (.c (.int .i64 1))) h n fun t47 h n =>
  opW Tryz.prog (.bin .rem (.c (g 9)) (.c (.int .i64 2))) h n fun t49 h n =>
  callW Tryz.prog 50 [(g 8), t45, t47, t49, (g 9), (.int .i64 3)] h n fun t51 h n =>
  opW Tryz.prog (.bin .neq (.c t51) (.c (.int .i64 0))) h n fun t52 h n =>
  cndW t52
   (κ .ret (tl 143 (ug g [(6, (.bool false)), (52, t52), (51, t51), (50, (g 9)), (49, t49), (48, (g 9)), (47, t47), (46, (g 9)), (45, t45), (44, t44), (43, (g 9)), (42, (g 8)), (39, t39), (38, (g 0)), (37, (g 9))])) h n)
   (opW Tryz.prog (.bin .add (.c (g 9)) (.c (.int .i64 1))) h n fun t41 h n =>
   κ .normal (tl 143 (ug g [(9, t41), (41, t41), (40, (g 9)), (52, t52), (51, t51), (50, (g 9)), (49, t49), (48, (g 9)), (47, t47), (46, (g 9)), (45, t45), (44, t44), (43, (g 9)), (42, (g 8)), (39, t39), (38, (g 0)), (37, (g 9))])) h n))
  (κ (.exit 0) (tl 143 (ug g [(39, t39), (38, (g 0)), (37, (g 9))])) h n)
theorem B11_0_eq (κ : KC) (g : Nat → AV) (h : Heap) (n : Nat) : wpC Tryz.prog (cAt [1, 1, 1, 1, 1, 1, 1, 0, 1, 0, 0] (bodyOf Tryz.prog 11)) κ (tl 143 g) h n = B11_0 κ g h n := by kernel_rfl
noncomputable def k11_0 (κ : KC) : KC := thenK (fun a h n => wpC Tryz.prog (cAt [1, 1, 1, 1, 1, 1, 1, 1] (bodyOf Tryz.prog 11)) κ a h n) κ
noncomputable def k11_1 (κ : KC) : KC := thenK (fun a h n => wpC Tryz.prog (cAt [1, 1, 1, 1, 1, 1, 1, 1, 1, 1, 1, 1] (bodyOf Tryz.prog 11)) κ a h n) κ
noncomputable def k11_2 (κ : KC) : KC := thenK (fun a h n => wpC Tryz.prog (cAt [1, 1, 1, 1, 1, 1, 1, 1, 1, 1, 1, 0, 1, 0, 1, 1, 1] (bodyOf Tryz.prog 11)) (k11_1 κ) a h n) (k11_1 κ)
/-- Behind the loop 0, by its exit 0. -/
noncomputable def X11_0_0 (K : KT) (g : Nat → AV) (h : Heap) (n : Nat) : Prop :=
 callW Tryz.prog 56 [(g 8), (.int .i64 0), (.int .i64 0)] h n fun t54 h n =>
 opW Tryz.prog (.len (.c t54)) h n fun t55 h n =>
 opW Tryz.prog (.bin .sub (.c (g 0)) (.c (.int .i64 1))) h n fun t57 h n =>
 opW Tryz.prog (.bin .neq (.c t55) (.c t57)) h n fun t58 h n =>
 grdW t58 false (fun k => k (g 8) h n) h n fun t60 h n =>
 grdW t58 false (callW Tryz.prog 58 [t60, (.int .i64 3)] h n) h n fun t61 h n =>
 grdW t58 false (opW Tryz.prog (.len (.c t61)) h n) h n fun t62 h n =>
 grdW t58 false (fun k => k (g 0) h n) h n fun t63 h n =>
 grdW t58 false (opW Tryz.prog (.bin .neq (.c t62) (.c t63)) h n) h n fun t64 h n =>
 opW Tryz.prog (.pick (.c t58) (.c (.bool true)) (.c t64)) h n fun t65 h n =>
 cndW t65
  (K (.bool false) h n)
  (opW Tryz.prog (.bin .rem (.c (g 1)) (.c (.int .i64 2))) h n fun t69 h n =>
  callW Tryz.prog 51 [(g 8), t69, (g 1)] h n fun t71 h n =>
  opW Tryz.prog (.ext (.c t71) 0) h n fun t72 h n =>
  opW Tryz.prog (.ext (.c t71) 1) h n fun t73 h n =>
  opW Tryz.prog (.bin .sub (.c (g 0)) (.c (.int .i64 1))) h n fun t75 h n =>
  opW Tryz.prog (.bin .sub (.c t75) (.c (g 1))) h n fun t77 h n =>
  cndW (g 2)
   (callW Tryz.prog 47 [(.int .i64 2)] h n fun t79 h n =>
   callW Tryz.prog 48 [t79, (.int .i64 0), (.int .i64 0), (.int .i64 3)] h n fun t81 h n =>
   loopW Tryz.prog (cAt [1, 1, 1, 1, 1, 1, 1, 1, 1, 1, 1, 0, 1, 0, 1, 1, 0, 1, 0, 0] (bodyOf Tryz.prog 11)) ((blockK 2 (k11_2 (retK Tryz.prog (resOf Tryz.prog 11) K)))) (tl 143 (ug g [(14, (.int .i64 1)), (81, t81), (80, t79), (13, t79), (79, t79), (78, (g 2)), (12, t77), (77, t77), (76, (g 1)), (75, t75), (74, (g 0)), (11, t73), (10, t72), (73, t73), (72, t72), (66, t71), (71, t71), (70, (g 1)), (69, t69), (68, (g 1)), (67, (g 8)), (65, t65), (64, t64), (63, t63), (62, t62), (61, t61), (60, t60), (59, t58), (58, t58), (57, t57), (56, (g 0)), (55, t55), (54, t54), (53, (g 8))])) h n)
   (wpC Tryz.prog (cAt [1, 1, 1, 1, 1, 1, 1, 1, 1, 1, 1, 1] (bodyOf Tryz.prog 11)) (retK Tryz.prog (resOf Tryz.prog 11) K) (tl 143 (ug g [(78, (g 2)), (12, t77), (77, t77), (76, (g 1)), (75, t75), (74, (g 0)), (11, t73), (10, t72), (73, t73), (72, t72), (66, t71), (71, t71), (70, (g 1)), (69, t69), (68, (g 1)), (67, (g 8)), (65, t65), (64, t64), (63, t63), (62, t62), (61, t61), (60, t60), (59, t58), (58, t58), (57, t57), (56, (g 0)), (55, t55), (54, t54), (53, (g 8))])) h n))
theorem X11_0_0_eq (K : KT) (g : Nat → AV) (h : Heap) (n : Nat) : (blockK 0 (k11_0 (retK Tryz.prog (resOf Tryz.prog 11) K))) (.exit 0) (tl 143 g) h n = X11_0_0 K g h n := by kernel_rfl
noncomputable def k11_3 (κ : KC) : KC := thenK (fun a h n => wpC Tryz.prog (cAt [1, 1, 1, 1, 1, 1, 1, 1, 1, 1, 1, 1, 1, 1] (bodyOf Tryz.prog 11)) κ a h n) κ
/-- Where ways meet. -/
noncomputable def R11_111111111111 (K : KT) (g : Nat → AV) (h : Heap) (n : Nat) : Prop :=
 opW Tryz.prog (.bin .neq (.c (g 11)) (.c (.int .i64 0))) h n fun t109 h n =>
 grdW t109 false (fun k => k (g 10) h n) h n fun t111 h n =>
 grdW t109 false (opW Tryz.prog (.len (.c t111)) h n) h n fun t112 h n =>
 grdW t109 false (fun k => k (g 12) h n) h n fun t113 h n =>
 grdW t109 false (opW Tryz.prog (.bin .neq (.c t112) (.c t113)) h n) h n fun t114 h n =>
 opW Tryz.prog (.pick (.c t109) (.c (.bool true)) (.c t114)) h n fun t115 h n =>
 cndW t115
  (K (.bool false) h n)
  (loopW Tryz.prog (cAt [1, 1, 1, 1, 1, 1, 1, 1, 1, 1, 1, 1, 1, 0, 1, 0, 0] (bodyOf Tryz.prog 11)) ((blockK 4 (k11_3 (retK Tryz.prog (resOf Tryz.prog 11) K)))) (tl 143 (ug g [(15, (.int .i64 0)), (115, t115), (114, t114), (113, t113), (112, t112), (111, t111), (110, t109), (109, t109), (108, (g 11))])) h n)
theorem R11_111111111111_eq (K : KT) (g : Nat → AV) (h : Heap) (n : Nat) : wpC Tryz.prog (cAt [1, 1, 1, 1, 1, 1, 1, 1, 1, 1, 1, 1] (bodyOf Tryz.prog 11)) (retK Tryz.prog (resOf Tryz.prog 11) K) (tl 143 g) h n = R11_111111111111 K g h n := by kernel_rfl
theorem X11_0_ret_eq (K : KT) (g : Nat → AV) (h : Heap) (n : Nat) : (blockK 0 (k11_0 (retK Tryz.prog (resOf Tryz.prog 11) K))) .ret (tl 143 g) h n = (K (g 6) h n) := by kernel_rfl
/-- The loop 1's body. -/
noncomputable def B11_1 (κ : KC) (g : Nat → AV) (h : Heap) (n : Nat) : Prop :=
 opW Tryz.prog (.bin .lss (.c (g 14)) (.c (g 0))) h n fun t84 h n =>
 cndW t84
  (opW Tryz.prog (.bin .sub (.c (g 14)) (.c (.int .i64 1))) h n fun t89 h n =>
  opW Tryz.prog (.bin .rem (.c t89) (.c (.int .i64 2))) h n fun t90 h n =>
  opW Tryz.prog (.bin .sub (.c (g 14)) (.c (.int .i64 1))) h n fun t92 h n =>
  opW Tryz.prog (.bin .rem (.c (g 14)) (.c (.int .i64 2))) h n fun t94 h n =>
  callW Tryz.prog 50 [(g 13), t90, t92, t94, (g 14), (.int .i64 3)] h n fun t96 h n =>
  opW Tryz.prog (.bin .add (.c (g 14)) (.c (.int .i64 1))) h n fun t86 h n =>
  κ .normal (tl 143 (ug g [(14, t86), (86, t86), (85, (g 14)), (96, t96), (95, (g 14)), (94, t94), (93, (g 14)), (92, t92), (91, (g 14)), (90, t90), (89, t89), (88, (g 14)), (87, (g 13)), (84, t84), (83, (g 0)), (82, (g 14))])) h n)
  (κ (.exit 2) (tl 143 (ug g [(84, t84), (83, (g 0)), (82, (g 14))])) h n)
theorem B11_1_eq (κ : KC) (g : Nat → AV) (h : Heap) (n : Nat) : wpC Tryz.prog (cAt [1, 1, 1, 1, 1, 1, 1, 1, 1, 1, 1, 0, 1, 0, 1, 1, 0, 1, 0, 0] (bodyOf Tryz.prog 11)) κ (tl 143 g) h n = B11_1 κ g h n := by kernel_rfl
/-- Behind the loop 1, by its exit 2. -/
noncomputable def X11_1_2 (K : KT) (g : Nat → AV) (h : Heap) (n : Nat) : Prop :=
 opW Tryz.prog (.bin .rem (.c (g 1)) (.c (.int .i64 2))) h n fun t100 h n =>
 callW Tryz.prog 52 [(g 13), t100, (g 1)] h n fun t102 h n =>
 opW Tryz.prog (.ext (.c t102) 0) h n fun t103 h n =>
 opW Tryz.prog (.ext (.c t102) 1) h n fun t104 h n =>
 opW Tryz.prog (.bin .add (.c (g 12)) (.c (.int .i64 1))) h n fun t107 h n =>
 opW Tryz.prog (.bin .neq (.c t104) (.c (.int .i64 0))) h n fun t109 h n =>
 grdW t109 false (fun k => k t103 h n) h n fun t111 h n =>
 grdW t109 false (opW Tryz.prog (.len (.c t111)) h n) h n fun t112 h n =>
 grdW t109 false (fun k => k t107 h n) h n fun t113 h n =>
 grdW t109 false (opW Tryz.prog (.bin .neq (.c t112) (.c t113)) h n) h n fun t114 h n =>
 opW Tryz.prog (.pick (.c t109) (.c (.bool true)) (.c t114)) h n fun t115 h n =>
 cndW t115
  (K (.bool false) h n)
  (loopW Tryz.prog (cAt [1, 1, 1, 1, 1, 1, 1, 1, 1, 1, 1, 1, 1, 0, 1, 0, 0] (bodyOf Tryz.prog 11)) ((blockK 4 (k11_3 (retK Tryz.prog (resOf Tryz.prog 11) K)))) (tl 143 (ug g [(15, (.int .i64 0)), (115, t115), (114, t114), (113, t113), (112, t112), (111, t111), (110, t109), (109, t109), (108, t104), (12, t107), (8, (g 13)), (107, t107), (106, (g 12)), (105, (g 13)), (11, t104), (10, t103), (104, t104), (103, t103), (97, t102), (102, t102), (101, (g 1)), (100, t100), (99, (g 1)), (98, (g 13))])) h n)
theorem X11_1_2_eq (K : KT) (g : Nat → AV) (h : Heap) (n : Nat) : (blockK 2 (k11_2 (retK Tryz.prog (resOf Tryz.prog 11) K))) (.exit 2) (tl 143 g) h n = X11_1_2 K g h n := by kernel_rfl
/-- The loop 2's body. -/
noncomputable def B11_2 (κ : KC) (g : Nat → AV) (h : Heap) (n : Nat) : Prop :=
 opW Tryz.prog (.bin .lss (.c (g 15)) (.c (g 0))) h n fun t118 h n =>
 cndW t118
  (opW Tryz.prog (.bin .rem (.c (g 15)) (.c (.int .i64 2))) h n fun t124 h n =>
  callW Tryz.prog 59 [(g 8), t124, (g 15)] h n fun t126 h n =>
  opW Tryz.prog (.ext (.c t126) 0) h n fun t127 h n =>
  opW Tryz.prog (.ext (.c t126) 1) h n fun t128 h n =>
  opW Tryz.prog (.new 0 [(.int .i64 0), (.int .i64 0), (.int .i64 0), (.int .i64 0)]) h n fun t16 h n =>
  opW Tryz.prog (.st 4 (.c t16) (.c t127)) h n fun _ h n =>
  opW Tryz.prog (.bin .sub (.c (g 0)) (.c (g 12))) h n fun t133 h n =>
  opW Tryz.prog (.bin .lss (.c (g 15)) (.c t133)) h n fun t134 h n =>
  opW Tryz.prog (.beq true (.c t128) (.c t134)) h n fun t135 h n =>
  cndW t135
   (κ .ret (tl 143 (ug g [(6, (.bool false)), (135, t135), (134, t134), (133, t133), (132, (g 12)), (131, (g 0)), (130, (g 15)), (129, t128), (17, t128), (16, t16), (128, t128), (127, t127), (121, t126), (126, t126), (125, (g 15)), (124, t124), (123, (g 15)), (122, (g 8)), (118, t118), (117, (g 0)), (116, (g 15))])) h n)
   (opW Tryz.prog (.bin .add (.c (g 15)) (.c (.int .i64 1))) h n fun t120 h n =>
   κ .normal (tl 143 (ug g [(15, t120), (120, t120), (119, (g 15)), (135, t135), (134, t134), (133, t133), (132, (g 12)), (131, (g 0)), (130, (g 15)), (129, t128), (17, t128), (16, t16), (128, t128), (127, t127), (121, t126), (126, t126), (125, (g 15)), (124, t124), (123, (g 15)), (122, (g 8)), (118, t118), (117, (g 0)), (116, (g 15))])) h n))
  (κ (.exit 4) (tl 143 (ug g [(118, t118), (117, (g 0)), (116, (g 15))])) h n)
theorem B11_2_eq (κ : KC) (g : Nat → AV) (h : Heap) (n : Nat) : wpC Tryz.prog (cAt [1, 1, 1, 1, 1, 1, 1, 1, 1, 1, 1, 1, 1, 0, 1, 0, 0] (bodyOf Tryz.prog 11)) κ (tl 143 g) h n = B11_2 κ g h n := by kernel_rfl
/-- Behind the loop 2, by its exit 4. -/
noncomputable def X11_2_4 (K : KT) (g : Nat → AV) (h : Heap) (n : Nat) : Prop :=
 callW Tryz.prog 58 [(g 8), (.int .i64 3)] h n fun t137 h n =>
 opW Tryz.prog (.len (.c t137)) h n fun t138 h n =>
 opW Tryz.prog (.bin .sub (.c (g 0)) (.c (g 12))) h n fun t141 h n =>
 opW Tryz.prog (.bin .eql (.c t138) (.c t141)) h n fun t142 h n =>
 K t142 h n
theorem X11_2_4_eq (K : KT) (g : Nat → AV) (h : Heap) (n : Nat) : (blockK 4 (k11_3 (retK Tryz.prog (resOf Tryz.prog 11) K))) (.exit 4) (tl 143 g) h n = X11_2_4 K g h n := by kernel_rfl
theorem X11_2_ret_eq (K : KT) (g : Nat → AV) (h : Heap) (n : Nat) : (blockK 4 (k11_3 (retK Tryz.prog (resOf Tryz.prog 11) K))) .ret (tl 143 g) h n = (K (g 6) h n) := by kernel_rfl
noncomputable def W11 (t0 t1 t2 : AV) (h : Heap) (n : Nat) (K : KT) : Prop :=
 callW Tryz.prog 25 [] h n fun t18 h n =>
 opW Tryz.prog (.un .not (.c t18)) h n fun t20 h n =>
 cndW t20
  (K (.bool false) h n)
  (opW Tryz.prog (.bin .rem (.c t0) (.c (.int .i64 6))) h n fun t22 h n =>
  opW Tryz.prog (.bin .add (.c t22) (.c (.int .i64 6))) h n fun t23 h n =>
  opW Tryz.prog (.bin .rem (.c t23) (.c (.int .i64 6))) h n fun t24 h n =>
  opW Tryz.prog (.bin .add (.c (.int .i64 2)) (.c t24)) h n fun t25 h n =>
  opW Tryz.prog (.bin .rem (.c t1) (.c t25)) h n fun t28 h n =>
  opW Tryz.prog (.bin .add (.c t28) (.c t25)) h n fun t30 h n =>
  opW Tryz.prog (.bin .rem (.c t30) (.c t25)) h n fun t32 h n =>
  callW Tryz.prog 47 [(.int .i64 2)] h n fun t33 h n =>
  callW Tryz.prog 48 [t33, (.int .i64 0), (.int .i64 0), (.int .i64 3)] h n fun t35 h n =>
  opW Tryz.prog (.bin .neq (.c t35) (.c (.int .i64 0))) h n fun t36 h n =>
  cndW t36
   (K (.bool false) h n)
   (loopW Tryz.prog (cAt [1, 1, 1, 1, 1, 1, 1, 0, 1, 0, 0] (bodyOf Tryz.prog 11)) ((blockK 0 (k11_0 (retK Tryz.prog (resOf Tryz.prog 11) K)))) (tl 143 (gl [t25, t32, t2, undefA, undefA, undefA, (.bool false), t18, t33, (.int .i64 1), undefA, undefA, undefA, undefA, undefA, undefA, undefA, undefA, t18, t18, t20, t0, t22, t23, t24, t25, t1, t25, t28, t25, t30, t25, t32, t33, t33, t35, t36])) h n))
theorem W11_eq (t0 t1 t2 : AV) (h : Heap) (n : Nat) (K : KT) : wpF Tryz.prog 11 [t0, t1, t2] h n K = W11 t0 t1 t2 h n K := by kernel_rfl
theorem W11_ok {t0 t1 t2 : AV} {h : Heap} {n : Nat} {K : KT} (hk : W11 t0 t1 t2 h n K) : callW Tryz.prog 11 [t0, t1, t2] h n K := callW_of_wpF mixed (by rw [W11_eq]; exact hk)
end Go.Proofs.As0
