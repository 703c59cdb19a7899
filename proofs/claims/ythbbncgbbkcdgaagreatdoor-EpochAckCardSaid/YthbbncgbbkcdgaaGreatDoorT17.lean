/- Contracts: a tree of capabilities: all of which something holds. -/
import Derived.Test.YthbbncgbbkcdgaaGreatDoorT13
import Derived.Test.YthbbncgbbkcdgaaGreatDoorT14
import Derived.Test.YthbbncgbbkcdgaaGreatDoorT16
set_option linter.unusedSimpArgs false
set_option linter.unusedVariables false
set_option linter.unnecessarySimpa false
namespace Go.Proofs.As0
open Go Go.Eng
attribute [local irreducible] opW callW cvW invW grdW cndW ldR dopW dcallW dcvW dgrdW loopW

def placeRow (q : Nat) : List AV := [.int .i64 ((q / 8 : Nat) : Int), .int .i64 ((q % 8 : Nat) : Int)]

/-- The places below a number at which there is a capability of which something holds. -/
def allN (L : Nat → Cap) (H : Nat → Bool) (k : Nat) : List Nat := (List.range k).filter fun q => decide ((L q).r ≠ 0) && H q
def allR (L : Nat → Cap) (H : Nat → Bool) (k : Nat) : List (List AV) := (allN L H k).map placeRow

theorem allR_succ (L : Nat → Cap) (H : Nat → Bool) (k : Nat) : allR L H (k + 1) = allR L H k ++ (if (L k).r ≠ 0 ∧ H k = true then [placeRow k] else []) := by
  unfold allR allN
  rw [List.range_succ, List.filter_append, List.map_append]
  congr 1
  by_cases h1 : (L k).r = 0 <;> by_cases h2 : H k = true <;> simp [h1, h2]
theorem allR_len (L : Nat → Cap) (H : Nat → Bool) (k : Nat) : (allR L H k).length ≤ k := by
  unfold allR allN
  rw [List.length_map]
  exact Nat.le_trans (List.length_filter_le _ _) (by simp)
theorem allR_row (L : Nat → Cap) (H : Nat → Bool) (k : Nat) : ∀ r ∈ allR L H k, r.length = 2 := by
  intro r hr
  simp only [allR, List.mem_map] at hr
  obtain ⟨q, _, rfl⟩ := hr
  rfl

/-- What the slice that grows stands for. -/
structure Grown (n : Nat) (h : Heap) (n1 : Nat) (h1 : Heap) (b e : Nat) (rows : List (List AV)) : Prop where
  good : Good n1 h1
  le : n ≤ n1
  old : ∀ x, x < n → h1 x = h x
  at_ : rows ≠ [] → n ≤ b ∧ b < n1 ∧ h1 b = some (.cells e rows.flatten)

set_option maxRecDepth 20000 in
theorem all_ev {t B E : Nat} {L : Nat → Cap} {h : Heap} {n : Nat} (g : Good n h) (T : TreeAt h t B E L) (hE : E ≤ 4) {f : Nat} {caps : List AV} {H : Nat → Bool}
    (hcl : ∀ h1 n1, Good n1 h1 → n ≤ n1 → (∀ x, x < n → h1 x = h x) → ∀ q, q < 8 * E → (L q).r ≠ 0 → FEv Tryz.prog f (.agg (placeRow q) :: .agg (L q).row :: caps) h1 n1 (.bool (H q)) h1 n1) :
    callW Tryz.prog 120 [.ptr t 0, .fn (.func f) [] caps] h n fun v h' n' => ∃ b, v = slV b (allR L H (8 * E)).length ∧ Grown n h n' h' b 2 (allR L H (8 * E)) := by
  have ht := T.t
  have hb := T.b
  have l1 := g.lt ht
  have l2 := g.lt hb
  refine W120_ok ?_
  unfold W120
  repeat (first
    | (refine cw_t ?_)
    | (refine cw_f ?_)
    | (refine gw_run ?_)
    | (refine gw_tf ?_)
    | (refine gw_ft ?_)
    | (refine gw_un ?_)
    | (refine ow_pick_t ?_)
    | (refine ow_pick_f ?_)
    | (refine ow_new ?_)
    | (refine ow_nck_p ?_)
    | (refine ow_nck_i ?_)
    | (refine ow_nck_f ?_)
    | (refine ow_mki ?_)
    | (refine ow_fa rfl ?_)
    | (refine ow_ext rfl ?_)
    | (refine ow_not rfl ?_)
    | (refine ow_peq_pn rfl ?_)
    | (refine ow_peq_nn rfl ?_)
    | (refine ow_peq_np rfl ?_)
    | (refine ow_ieq_in rfl ?_)
    | (refine ow_ieq_nn rfl ?_)
    | (refine ow_ieq_ni rfl ?_)
    | (refine ow_mkf rfl rfl ?_)
    | (refine ow_box (by first | (simp only [cellsA]; rfl) | rfl) ?_)
    | (refine ow_len rfl ?_)
    | (refine ow_lss_t (by omega) ?_)
    | (refine ow_lss_f (by omega) ?_)
    | (refine ow_leq_t (by omega) ?_)
    | (refine ow_leq_f (by omega) ?_)
    | (refine ow_gtr_t (by omega) ?_)
    | (refine ow_gtr_f (by omega) ?_)
    | (refine ow_geq_t (by omega) ?_)
    | (refine ow_geq_f (by omega) ?_)
    | (refine ow_eql_t (by omega) ?_)
    | (refine ow_eql_f (by omega) ?_)
    | (refine ow_neq_t (by omega) ?_)
    | (refine ow_neq_f (by omega) ?_)
    | (refine ow_add_i rfl (by omega) (by omega) ?_)
    | (refine ow_sub_i rfl (by omega) (by omega) ?_)
    | (refine ow_conv_i (by omega) (by omega) ?_)
    | (refine ow_conv_u (by omega) (by omega) ?_)
    | (refine ow_iaA (by omega) (by omega) rfl ?_)
    | (refine ow_iaS (by omega) (by omega) rfl ?_)
    | (refine ow_ld (by repeat (first | exact upd_same _ _ _ | assumption | refine upd_get (by omega) ?_)) (by first | exact part_all rfl | rfl | (simp only [partA, if_true, List.drop_succ_cons, List.drop_zero, List.take_succ_cons, List.take_zero, List.length_cons, List.length_nil, Nat.reduceAdd, Nat.zero_add]; rfl)) ?_)
    | (refine ow_st (by repeat (first | exact upd_same _ _ _ | assumption | refine upd_get (by omega) ?_)) (by first | (simp only [cellsA]; rfl) | rfl) rfl (by first | (simp; done) | exact Nat.le_refl _) rfl (by first | exact splice_all rfl | (simp only [splice, List.take_succ_cons, List.take_zero, List.drop_succ_cons, List.drop_zero, List.length_cons, List.length_nil, List.cons_append, List.nil_append, Nat.reduceAdd, Nat.zero_add, Nat.add_zero]; rfl)) ?_)
    | (refine ow_build (by simp only [repl, List.append_nil, fillA, List.map, ev, cellsA, splice, List.take_succ_cons, List.take_zero, List.drop_succ_cons, List.drop_zero, List.length_cons, List.length_nil, List.cons_append, List.nil_append, Nat.reduceAdd, Nat.zero_add, Nat.add_zero, true_and, and_self, if_true, Nat.reduceLeDiff, Nat.le_refl]; rfl) ?_)
    | (refine ow_bsl (by simp only [repl, List.append_nil, fillA, List.map, ev, cellsA, splice, List.take_succ_cons, List.take_zero, List.drop_succ_cons, List.drop_zero, List.length_cons, List.length_nil, List.cons_append, List.nil_append, Nat.reduceAdd, Nat.zero_add, Nat.add_zero, true_and, and_self, if_true, Nat.reduceLeDiff, Nat.le_refl]; rfl) ?_)
    | (refine ldR_of (by repeat (first | exact upd_same _ _ _ | assumption | refine upd_get (by omega) ?_)) (by first | exact part_all rfl | rfl | (simp only [partA, if_true, List.drop_succ_cons, List.drop_zero, List.take_succ_cons, List.take_zero, List.length_cons, List.length_nil, Nat.reduceAdd, Nat.zero_add]; rfl)) ?_)
    | (refine dow_ld (by repeat (first | exact upd_same _ _ _ | assumption | refine upd_get (by omega) ?_)) (by first | exact part_all rfl | rfl | (simp only [partA, if_true, List.drop_succ_cons, List.drop_zero, List.take_succ_cons, List.take_zero, List.length_cons, List.length_nil, Nat.reduceAdd, Nat.zero_add]; rfl)) (by simp only [meets, and_true]; (try (repeat' apply And.intro)); all_goals (intro z; simp only [fp_d, fp_f, List.mem_cons, List.not_mem_nil, or_false, false_or, not_false_eq_true, true_and, and_true, Bool.false_eq_true, false_and, not_or]; omega)) ?_)
    | (refine dow_new (by simp only [meets, and_true]; (try (repeat' apply And.intro)); all_goals (intro z; simp only [fp_d, fp_f, List.mem_cons, List.not_mem_nil, or_false, false_or, not_false_eq_true, true_and, and_true, Bool.false_eq_true, false_and, not_or]; omega)) ?_)
    | (refine dow_box (by first | (simp only [cellsA]; rfl) | rfl) (by simp only [meets, and_true]; (try (repeat' apply And.intro)); all_goals (intro z; simp only [fp_d, fp_f, List.mem_cons, List.not_mem_nil, or_false, false_or, not_false_eq_true, true_and, and_true, Bool.false_eq_true, false_and, not_or]; omega)) ?_)
    | (refine dow_st (by repeat (first | exact upd_same _ _ _ | assumption | refine upd_get (by omega) ?_)) (by first | (simp only [cellsA]; rfl) | rfl) rfl (by first | (simp; done) | exact Nat.le_refl _) rfl (by first | exact splice_all rfl | (simp only [splice, List.take_succ_cons, List.take_zero, List.drop_succ_cons, List.drop_zero, List.length_cons, List.length_nil, List.cons_append, List.nil_append, Nat.reduceAdd, Nat.zero_add, Nat.add_zero]; rfl)) (by simp only [meets, and_true]; (try (repeat' apply And.intro)); all_goals (intro z; simp only [fp_d, fp_f, List.mem_cons, List.not_mem_nil, or_false, false_or, not_false_eq_true, true_and, and_true, Bool.false_eq_true, false_and, not_or]; omega)) ?_)
    | (refine dgw_run ?_)
    | (refine dgw_tf ?_)
    | (refine dgw_ft ?_)
    | (refine dgw_un ?_))
  refine loopW_inv mixed (fun d a h1 n1 => ∃ gg b i, a = tl 50 gg ∧ gg 0 = .ptr t 0 ∧ gg 1 = .fn (.func f) [] caps ∧ gg 16 = .int .i64 (E : Int) ∧ gg 17 = .int .i64 ((i : Nat) : Int) ∧ gg 5 = slV b (allR L H (8 * i)).length ∧
    i ≤ E ∧ d = E - i ∧ Grown n h n1 h1 b 2 (allR L H (8 * i))) (d := E) ?_
    ⟨_, 0, 0, rfl, rfl, rfl, rfl, rfl, rfl, Nat.zero_le _, rfl, g, Nat.le_refl _, fun _ _ => rfl, fun h => absurd rfl h⟩
  intro d a h1 n1 hI
  obtain ⟨gg, b, i, ha, g0, g1, g16, g17, g5, hi, hd, hG⟩ := hI
  subst ha
  rw [B120_0_eq]
  unfold B120_0
  rw [g0, g16, g17]
  by_cases hlt : i < E
  · have ht1 : h1 t = some (.cells 0 [.sl B 0 0 E (some E)]) := by rw [hG.old t l1]; exact ht
    have hb1 : h1 B = some (.cells 32 (enc Cap.row (8 * E) L)) := by rw [hG.old B l2]; exact hb
    repeat (first
      | (refine ow_ld (by repeat (first | exact upd_same _ _ _ | assumption | refine upd_get (by omega) ?_)) (v := .agg (enc Cap.row 8 fun s => L (8 * i + s))) (by have := partA_sub Cap.len (by omega) L (i := 8 * i) (m := 8) (n := 8 * E) (by omega); rw [show 0 + (i : Int).toNat * 32 = 8 * i * 4 by omega]; exact this) ?_)
      | (refine cw_t ?_)
      | (refine cw_f ?_)
      | (refine gw_run ?_)
      | (refine gw_tf ?_)
      | (refine gw_ft ?_)
      | (refine gw_un ?_)
      | (refine ow_pick_t ?_)
      | (refine ow_pick_f ?_)
      | (refine ow_new ?_)
      | (refine ow_nck_p ?_)
      | (refine ow_nck_i ?_)
      | (refine ow_nck_f ?_)
      | (refine ow_mki ?_)
      | (refine ow_fa rfl ?_)
      | (refine ow_ext rfl ?_)
      | (refine ow_not rfl ?_)
      | (refine ow_peq_pn rfl ?_)
      | (refine ow_peq_nn rfl ?_)
      | (refine ow_peq_np rfl ?_)
      | (refine ow_ieq_in rfl ?_)
      | (refine ow_ieq_nn rfl ?_)
      | (refine ow_ieq_ni rfl ?_)
      | (refine ow_mkf rfl rfl ?_)
      | (refine ow_box (by first | (simp only [cellsA]; rfl) | rfl) ?_)
      | (refine ow_len rfl ?_)
      | (refine ow_lss_t (by omega) ?_)
      | (refine ow_lss_f (by omega) ?_)
      | (refine ow_leq_t (by omega) ?_)
      | (refine ow_leq_f (by omega) ?_)
      | (refine ow_gtr_t (by omega) ?_)
      | (refine ow_gtr_f (by omega) ?_)
      | (refine ow_geq_t (by omega) ?_)
      | (refine ow_geq_f (by omega) ?_)
      | (refine ow_eql_t (by omega) ?_)
      | (refine ow_eql_f (by omega) ?_)
      | (refine ow_neq_t (by omega) ?_)
      | (refine ow_neq_f (by omega) ?_)
      | (refine ow_add_i rfl (by omega) (by omega) ?_)
      | (refine ow_sub_i rfl (by omega) (by omega) ?_)
      | (refine ow_conv_i (by omega) (by omega) ?_)
      | (refine ow_conv_u (by omega) (by omega) ?_)
      | (refine ow_iaA (by omega) (by omega) rfl ?_)
      | (refine ow_iaS (by omega) (by omega) rfl ?_)
      | (refine ow_ld (by repeat (first | exact upd_same _ _ _ | assumption | refine upd_get (by omega) ?_)) (by first | exact part_all rfl | rfl | (simp only [partA, if_true, List.drop_succ_cons, List.drop_zero, List.take_succ_cons, List.take_zero, List.length_cons, List.length_nil, Nat.reduceAdd, Nat.zero_add]; rfl)) ?_)
      | (refine ow_st (by repeat (first | exact upd_same _ _ _ | assumption | refine upd_get (by omega) ?_)) (by first | (simp only [cellsA]; rfl) | rfl) rfl (by first | (simp; done) | exact Nat.le_refl _) rfl (by first | exact splice_all rfl | (simp only [splice, List.take_succ_cons, List.take_zero, List.drop_succ_cons, List.drop_zero, List.length_cons, List.length_nil, List.cons_append, List.nil_append, Nat.reduceAdd, Nat.zero_add, Nat.add_zero]; rfl)) ?_)
      | (refine ow_build (by simp only [repl, List.append_nil, fillA, List.map, ev, cellsA, splice, List.take_succ_cons, List.take_zero, List.drop_succ_cons, List.drop_zero, List.length_cons, List.length_nil, List.cons_append, List.nil_append, Nat.reduceAdd, Nat.zero_add, Nat.add_zero, true_and, and_self, if_true, Nat.reduceLeDiff, Nat.le_refl]; rfl) ?_)
      | (refine ow_bsl (by simp only [repl, List.append_nil, fillA, List.map, ev, cellsA, splice, List.take_succ_cons, List.take_zero, List.drop_succ_cons, List.drop_zero, List.length_cons, List.length_nil, List.cons_append, List.nil_append, Nat.reduceAdd, Nat.zero_add, Nat.add_zero, true_and, and_self, if_true, Nat.reduceLeDiff, Nat.le_refl]; rfl) ?_)
      | (refine ldR_of (by repeat (first | exact upd_same _ _ _ | assumption | refine upd_get (by omega) ?_)) (by first | exact part_all rfl | rfl | (simp only [partA, if_true, List.drop_succ_cons, List.drop_zero, List.take_succ_cons, List.take_zero, List.length_cons, List.length_nil, Nat.reduceAdd, Nat.zero_add]; rfl)) ?_)
      | (refine dow_ld (by repeat (first | exact upd_same _ _ _ | assumption | refine upd_get (by omega) ?_)) (by first | exact part_all rfl | rfl | (simp only [partA, if_true, List.drop_succ_cons, List.drop_zero, List.take_succ_cons, List.take_zero, List.length_cons, List.length_nil, Nat.reduceAdd, Nat.zero_add]; rfl)) (by simp only [meets, and_true]; (try (repeat' apply And.intro)); all_goals (intro z; simp only [fp_d, fp_f, List.mem_cons, List.not_mem_nil, or_false, false_or, not_false_eq_true, true_and, and_true, Bool.false_eq_true, false_and, not_or]; omega)) ?_)
      | (refine dow_new (by simp only [meets, and_true]; (try (repeat' apply And.intro)); all_goals (intro z; simp only [fp_d, fp_f, List.mem_cons, List.not_mem_nil, or_false, false_or, not_false_eq_true, true_and, and_true, Bool.false_eq_true, false_and, not_or]; omega)) ?_)
      | (refine dow_box (by first | (simp only [cellsA]; rfl) | rfl) (by simp only [meets, and_true]; (try (repeat' apply And.intro)); all_goals (intro z; simp only [fp_d, fp_f, List.mem_cons, List.not_mem_nil, or_false, false_or, not_false_eq_true, true_and, and_true, Bool.false_eq_true, false_and, not_or]; omega)) ?_)
      | (refine dow_st (by repeat (first | exact upd_same _ _ _ | assumption | refine upd_get (by omega) ?_)) (by first | (simp only [cellsA]; rfl) | rfl) rfl (by first | (simp; done) | exact Nat.le_refl _) rfl (by first | exact splice_all rfl | (simp only [splice, List.take_succ_cons, List.take_zero, List.drop_succ_cons, List.drop_zero, List.length_cons, List.length_nil, List.cons_append, List.nil_append, Nat.reduceAdd, Nat.zero_add, Nat.add_zero]; rfl)) (by simp only [meets, and_true]; (try (repeat' apply And.intro)); all_goals (intro z; simp only [fp_d, fp_f, List.mem_cons, List.not_mem_nil, or_false, false_or, not_false_eq_true, true_and, and_true, Bool.false_eq_true, false_and, not_or]; omega)) ?_)
      | (refine dgw_run ?_)
      | (refine dgw_tf ?_)
      | (refine dgw_ft ?_)
      | (refine dgw_un ?_))
    refine loopW_inv mixed (fun d' a h2 n2 => ∃ gg b j, a = tl 50 gg ∧ gg 0 = .ptr t 0 ∧ gg 1 = .fn (.func f) [] caps ∧ gg 16 = .int .i64 (E : Int) ∧ gg 17 = .int .i64 ((i : Nat) : Int) ∧ gg 6 = .int .i64 ((i : Nat) : Int) ∧
      gg 26 = .agg (enc Cap.row 8 fun s => L (8 * i + s)) ∧ gg 27 = .int .i64 ((j : Nat) : Int) ∧ gg 5 = slV b (allR L H (8 * i + j)).length ∧
      j ≤ 8 ∧ d' = 8 - j ∧ Grown n h n2 h2 b 2 (allR L H (8 * i + j))) (d := 8) ?_
      ⟨_, b, 0, rfl, g0, g1, g16, g17, rfl, rfl, rfl, g5, by omega, rfl, hG⟩
    intro d' a h2 n2 hI
    obtain ⟨gg, b, j, ha, g0, g1, g16, g17, g6, g26, g27, g5, hj, hd', hG⟩ := hI
    subst ha
    rw [B120_1_eq]
    unfold B120_1
    rw [g1, g5, g6, g26, g27]
    by_cases hlt2 : j < 8
    · have hpl : placeRow (8 * i + j) = [.int .i64 ((i : Nat) : Int), .int .i64 ((j : Nat) : Int)] := by
        unfold placeRow
        rw [show (8 * i + j) / 8 = i by omega, show (8 * i + j) % 8 = j by omega]
      have q1 : 8 * i + j < 8 * E := by omega
      have old2 := hG.old
      have gd := hG.good
      have le2 := hG.le
      by_cases hr : (L (8 * i + j)).r = 0
      · repeat (first
          | (refine ow_ixA (by omega) (by omega) (cap_row (q := j) (by omega) hlt2) ?_)
          | (refine cw_t ?_)
          | (refine cw_f ?_)
          | (refine gw_run ?_)
          | (refine gw_tf ?_)
          | (refine gw_ft ?_)
          | (refine gw_un ?_)
          | (refine ow_pick_t ?_)
          | (refine ow_pick_f ?_)
          | (refine ow_new ?_)
          | (refine ow_nck_p ?_)
          | (refine ow_nck_i ?_)
          | (refine ow_nck_f ?_)
          | (refine ow_mki ?_)
          | (refine ow_fa rfl ?_)
          | (refine ow_ext rfl ?_)
          | (refine ow_not rfl ?_)
          | (refine ow_peq_pn rfl ?_)
          | (refine ow_peq_nn rfl ?_)
          | (refine ow_peq_np rfl ?_)
          | (refine ow_ieq_in rfl ?_)
          | (refine ow_ieq_nn rfl ?_)
          | (refine ow_ieq_ni rfl ?_)
          | (refine ow_mkf rfl rfl ?_)
          | (refine ow_box (by first | (simp only [cellsA]; rfl) | rfl) ?_)
          | (refine ow_len rfl ?_)
          | (refine ow_lss_t (by omega) ?_)
          | (refine ow_lss_f (by omega) ?_)
          | (refine ow_leq_t (by omega) ?_)
          | (refine ow_leq_f (by omega) ?_)
          | (refine ow_gtr_t (by omega) ?_)
          | (refine ow_gtr_f (by omega) ?_)
          | (refine ow_geq_t (by omega) ?_)
          | (refine ow_geq_f (by omega) ?_)
          | (refine ow_eql_t (by omega) ?_)
          | (refine ow_eql_f (by omega) ?_)
          | (refine ow_neq_t (by omega) ?_)
          | (refine ow_neq_f (by omega) ?_)
          | (refine ow_add_i rfl (by omega) (by omega) ?_)
          | (refine ow_sub_i rfl (by omega) (by omega) ?_)
          | (refine ow_conv_i (by omega) (by omega) ?_)
          | (refine ow_conv_u (by omega) (by omega) ?_)
          | (refine ow_iaA (by omega) (by omega) rfl ?_)
          | (refine ow_iaS (by omega) (by omega) rfl ?_)
          | (refine ow_ld (by repeat (first | exact upd_same _ _ _ | assumption | refine upd_get (by omega) ?_)) (by first | exact part_all rfl | rfl | (simp only [partA, if_true, List.drop_succ_cons, List.drop_zero, List.take_succ_cons, List.take_zero, List.length_cons, List.length_nil, Nat.reduceAdd, Nat.zero_add]; rfl)) ?_)
          | (refine ow_st (by repeat (first | exact upd_same _ _ _ | assumption | refine upd_get (by omega) ?_)) (by first | (simp only [cellsA]; rfl) | rfl) rfl (by first | (simp; done) | exact Nat.le_refl _) rfl (by first | exact splice_all rfl | (simp only [splice, List.take_succ_cons, List.take_zero, List.drop_succ_cons, List.drop_zero, List.length_cons, List.length_nil, List.cons_append, List.nil_append, Nat.reduceAdd, Nat.zero_add, Nat.add_zero]; rfl)) ?_)
          | (refine ow_build (by simp only [repl, List.append_nil, fillA, List.map, ev, cellsA, splice, List.take_succ_cons, List.take_zero, List.drop_succ_cons, List.drop_zero, List.length_cons, List.length_nil, List.cons_append, List.nil_append, Nat.reduceAdd, Nat.zero_add, Nat.add_zero, true_and, and_self, if_true, Nat.reduceLeDiff, Nat.le_refl]; rfl) ?_)
          | (refine ow_bsl (by simp only [repl, List.append_nil, fillA, List.map, ev, cellsA, splice, List.take_succ_cons, List.take_zero, List.drop_succ_cons, List.drop_zero, List.length_cons, List.length_nil, List.cons_append, List.nil_append, Nat.reduceAdd, Nat.zero_add, Nat.add_zero, true_and, and_self, if_true, Nat.reduceLeDiff, Nat.le_refl]; rfl) ?_)
          | (refine ldR_of (by repeat (first | exact upd_same _ _ _ | assumption | refine upd_get (by omega) ?_)) (by first | exact part_all rfl | rfl | (simp only [partA, if_true, List.drop_succ_cons, List.drop_zero, List.take_succ_cons, List.take_zero, List.length_cons, List.length_nil, Nat.reduceAdd, Nat.zero_add]; rfl)) ?_)
          | (refine dow_ld (by repeat (first | exact upd_same _ _ _ | assumption | refine upd_get (by omega) ?_)) (by first | exact part_all rfl | rfl | (simp only [partA, if_true, List.drop_succ_cons, List.drop_zero, List.take_succ_cons, List.take_zero, List.length_cons, List.length_nil, Nat.reduceAdd, Nat.zero_add]; rfl)) (by simp only [meets, and_true]; (try (repeat' apply And.intro)); all_goals (intro z; simp only [fp_d, fp_f, List.mem_cons, List.not_mem_nil, or_false, false_or, not_false_eq_true, true_and, and_true, Bool.false_eq_true, false_and, not_or]; omega)) ?_)
          | (refine dow_new (by simp only [meets, and_true]; (try (repeat' apply And.intro)); all_goals (intro z; simp only [fp_d, fp_f, List.mem_cons, List.not_mem_nil, or_false, false_or, not_false_eq_true, true_and, and_true, Bool.false_eq_true, false_and, not_or]; omega)) ?_)
          | (refine dow_box (by first | (simp only [cellsA]; rfl) | rfl) (by simp only [meets, and_true]; (try (repeat' apply And.intro)); all_goals (intro z; simp only [fp_d, fp_f, List.mem_cons, List.not_mem_nil, or_false, false_or, not_false_eq_true, true_and, and_true, Bool.false_eq_true, false_and, not_or]; omega)) ?_)
          | (refine dow_st (by repeat (first | exact upd_same _ _ _ | assumption | refine upd_get (by omega) ?_)) (by first | (simp only [cellsA]; rfl) | rfl) rfl (by first | (simp; done) | exact Nat.le_refl _) rfl (by first | exact splice_all rfl | (simp only [splice, List.take_succ_cons, List.take_zero, List.drop_succ_cons, List.drop_zero, List.length_cons, List.length_nil, List.cons_append, List.nil_append, Nat.reduceAdd, Nat.zero_add, Nat.add_zero]; rfl)) (by simp only [meets, and_true]; (try (repeat' apply And.intro)); all_goals (intro z; simp only [fp_d, fp_f, List.mem_cons, List.not_mem_nil, or_false, false_or, not_false_eq_true, true_and, and_true, Bool.false_eq_true, false_and, not_or]; omega)) ?_)
          | (refine dgw_run ?_)
          | (refine dgw_tf ?_)
          | (refine dgw_ft ?_)
          | (refine dgw_un ?_))
        have e : allR L H (8 * i + (j + 1)) = allR L H (8 * i + j) := by
          rw [← Nat.add_assoc, allR_succ]; simp [hr]
        refine ⟨8 - (j + 1), by omega, _, b, j + 1, rfl, g0, g1, g16, g17, g6, g26, rfl, ?_, by omega, rfl, ?_⟩
        · rw [e]; exact g5
        · rw [e]
          exact ⟨(by repeat (first | exact Good.mono (by assumption) (by omega) | (refine Good.upd ?_ (by omega) (by first | rfl | (refine belowL_mono ?_ _ (by assumption); omega) | (simp [belowB, belowL, below]; (try omega)))))), by omega, fun x hx => by repeat (first | exact old2 x hx | refine upd_get (by omega) ?_), fun hne => by
            obtain ⟨a1, a2, a3⟩ := hG.at_ hne
            exact ⟨a1, by omega, by repeat (first | exact a3 | refine upd_get (by omega) ?_)⟩⟩
      · cases hH : H (8 * i + j) with
        | false =>
          repeat (first
            | (refine ow_ixA (by omega) (by omega) (cap_row (q := j) (by omega) hlt2) ?_)
            | (refine cvw (l := .agg (placeRow (8 * i + j)) :: .agg (L (8 * i + j)).row :: caps) (by rw [hpl]; rfl) ?_)
            | (refine cal (hcl _ _ (by repeat (first | exact Good.mono (by assumption) (by omega) | (refine Good.upd ?_ (by omega) (by first | rfl | (refine belowL_mono ?_ _ (by assumption); omega) | (simp [belowB, belowL, below]; (try omega)))))) (by omega) (fun x hx => by repeat (first | exact old2 x hx | refine upd_get (by omega) ?_)) (8 * i + j) q1 hr) ?_)
            | (rw [hH])
            | (refine cw_t ?_)
            | (refine cw_f ?_)
            | (refine gw_run ?_)
            | (refine gw_tf ?_)
            | (refine gw_ft ?_)
            | (refine gw_un ?_)
            | (refine ow_pick_t ?_)
            | (refine ow_pick_f ?_)
            | (refine ow_new ?_)
            | (refine ow_nck_p ?_)
            | (refine ow_nck_i ?_)
            | (refine ow_nck_f ?_)
            | (refine ow_mki ?_)
            | (refine ow_fa rfl ?_)
            | (refine ow_ext rfl ?_)
            | (refine ow_not rfl ?_)
            | (refine ow_peq_pn rfl ?_)
            | (refine ow_peq_nn rfl ?_)
            | (refine ow_peq_np rfl ?_)
            | (refine ow_ieq_in rfl ?_)
            | (refine ow_ieq_nn rfl ?_)
            | (refine ow_ieq_ni rfl ?_)
            | (refine ow_mkf rfl rfl ?_)
            | (refine ow_box (by first | (simp only [cellsA]; rfl) | rfl) ?_)
            | (refine ow_len rfl ?_)
            | (refine ow_lss_t (by omega) ?_)
            | (refine ow_lss_f (by omega) ?_)
            | (refine ow_leq_t (by omega) ?_)
            | (refine ow_leq_f (by omega) ?_)
            | (refine ow_gtr_t (by omega) ?_)
            | (refine ow_gtr_f (by omega) ?_)
            | (refine ow_geq_t (by omega) ?_)
            | (refine ow_geq_f (by omega) ?_)
            | (refine ow_eql_t (by omega) ?_)
            | (refine ow_eql_f (by omega) ?_)
            | (refine ow_neq_t (by omega) ?_)
            | (refine ow_neq_f (by omega) ?_)
            | (refine ow_add_i rfl (by omega) (by omega) ?_)
            | (refine ow_sub_i rfl (by omega) (by omega) ?_)
            | (refine ow_conv_i (by omega) (by omega) ?_)
            | (refine ow_conv_u (by omega) (by omega) ?_)
            | (refine ow_iaA (by omega) (by omega) rfl ?_)
            | (refine ow_iaS (by omega) (by omega) rfl ?_)
            | (refine ow_ld (by repeat (first | exact upd_same _ _ _ | assumption | refine upd_get (by omega) ?_)) (by first | exact part_all rfl | rfl | (simp only [partA, if_true, List.drop_succ_cons, List.drop_zero, List.take_succ_cons, List.take_zero, List.length_cons, List.length_nil, Nat.reduceAdd, Nat.zero_add]; rfl)) ?_)
            | (refine ow_st (by repeat (first | exact upd_same _ _ _ | assumption | refine upd_get (by omega) ?_)) (by first | (simp only [cellsA]; rfl) | rfl) rfl (by first | (simp; done) | exact Nat.le_refl _) rfl (by first | exact splice_all rfl | (simp only [splice, List.take_succ_cons, List.take_zero, List.drop_succ_cons, List.drop_zero, List.length_cons, List.length_nil, List.cons_append, List.nil_append, Nat.reduceAdd, Nat.zero_add, Nat.add_zero]; rfl)) ?_)
            | (refine ow_build (by simp only [repl, List.append_nil, fillA, List.map, ev, cellsA, splice, List.take_succ_cons, List.take_zero, List.drop_succ_cons, List.drop_zero, List.length_cons, List.length_nil, List.cons_append, List.nil_append, Nat.reduceAdd, Nat.zero_add, Nat.add_zero, true_and, and_self, if_true, Nat.reduceLeDiff, Nat.le_refl]; rfl) ?_)
            | (refine ow_bsl (by simp only [repl, List.append_nil, fillA, List.map, ev, cellsA, splice, List.take_succ_cons, List.take_zero, List.drop_succ_cons, List.drop_zero, List.length_cons, List.length_nil, List.cons_append, List.nil_append, Nat.reduceAdd, Nat.zero_add, Nat.add_zero, true_and, and_self, if_true, Nat.reduceLeDiff, Nat.le_refl]; rfl) ?_)
            | (refine ldR_of (by repeat (first | exact upd_same _ _ _ | assumption | refine upd_get (by omega) ?_)) (by first | exact part_all rfl | rfl | (simp only [partA, if_true, List.drop_succ_cons, List.drop_zero, List.take_succ_cons, List.take_zero, List.length_cons, List.length_nil, Nat.reduceAdd, Nat.zero_add]; rfl)) ?_)
            | (refine dow_ld (by repeat (first | exact upd_same _ _ _ | assumption | refine upd_get (by omega) ?_)) (by first | exact part_all rfl | rfl | (simp only [partA, if_true, List.drop_succ_cons, List.drop_zero, List.take_succ_cons, List.take_zero, List.length_cons, List.length_nil, Nat.reduceAdd, Nat.zero_add]; rfl)) (by simp only [meets, and_true]; (try (repeat' apply And.intro)); all_goals (intro z; simp only [fp_d, fp_f, List.mem_cons, List.not_mem_nil, or_false, false_or, not_false_eq_true, true_and, and_true, Bool.false_eq_true, false_and, not_or]; omega)) ?_)
            | (refine dow_new (by simp only [meets, and_true]; (try (repeat' apply And.intro)); all_goals (intro z; simp only [fp_d, fp_f, List.mem_cons, List.not_mem_nil, or_false, false_or, not_false_eq_true, true_and, and_true, Bool.false_eq_true, false_and, not_or]; omega)) ?_)
            | (refine dow_box (by first | (simp only [cellsA]; rfl) | rfl) (by simp only [meets, and_true]; (try (repeat' apply And.intro)); all_goals (intro z; simp only [fp_d, fp_f, List.mem_cons, List.not_mem_nil, or_false, false_or, not_false_eq_true, true_and, and_true, Bool.false_eq_true, false_and, not_or]; omega)) ?_)
            | (refine dow_st (by repeat (first | exact upd_same _ _ _ | assumption | refine upd_get (by omega) ?_)) (by first | (simp only [cellsA]; rfl) | rfl) rfl (by first | (simp; done) | exact Nat.le_refl _) rfl (by first | exact splice_all rfl | (simp only [splice, List.take_succ_cons, List.take_zero, List.drop_succ_cons, List.drop_zero, List.length_cons, List.length_nil, List.cons_append, List.nil_append, Nat.reduceAdd, Nat.zero_add, Nat.add_zero]; rfl)) (by simp only [meets, and_true]; (try (repeat' apply And.intro)); all_goals (intro z; simp only [fp_d, fp_f, List.mem_cons, List.not_mem_nil, or_false, false_or, not_false_eq_true, true_and, and_true, Bool.false_eq_true, false_and, not_or]; omega)) ?_)
            | (refine dgw_run ?_)
            | (refine dgw_tf ?_)
            | (refine dgw_ft ?_)
            | (refine dgw_un ?_))
          have e : allR L H (8 * i + (j + 1)) = allR L H (8 * i + j) := by
            rw [← Nat.add_assoc, allR_succ]; simp [hH]
          refine ⟨8 - (j + 1), by omega, _, b, j + 1, rfl, g0, g1, g16, g17, g6, g26, rfl, ?_, by omega, rfl, ?_⟩
          · rw [e]; exact g5
          · rw [e]
            exact ⟨(by repeat (first | exact Good.mono (by assumption) (by omega) | (refine Good.upd ?_ (by omega) (by first | rfl | (refine belowL_mono ?_ _ (by assumption); omega) | (simp [belowB, belowL, below]; (try omega)))))), by omega, fun x hx => by repeat (first | exact old2 x hx | refine upd_get (by omega) ?_), fun hne => by
              obtain ⟨a1, a2, a3⟩ := hG.at_ hne
              exact ⟨a1, by omega, by repeat (first | exact a3 | refine upd_get (by omega) ?_)⟩⟩
        | true =>
          have hlen := allR_len L H (8 * i + j)
          repeat (first
            | (refine ow_ixA (by omega) (by omega) (cap_row (q := j) (by omega) hlt2) ?_)
            | (refine cvw (l := .agg (placeRow (8 * i + j)) :: .agg (L (8 * i + j)).row :: caps) (by rw [hpl]; rfl) ?_)
            | (refine cal (hcl _ _ (by repeat (first | exact Good.mono (by assumption) (by omega) | (refine Good.upd ?_ (by omega) (by first | rfl | (refine belowL_mono ?_ _ (by assumption); omega) | (simp [belowB, belowL, below]; (try omega)))))) (by omega) (fun x hx => by repeat (first | exact old2 x hx | refine upd_get (by omega) ?_)) (8 * i + j) q1 hr) ?_)
            | (rw [hH])
            | (refine ow_app1 (rows := allR L H (8 * i + j)) (row := [.int .i64 ((i : Nat) : Int), .int .i64 ((j : Nat) : Int)]) (b := b) (by omega) (fun hne => by { obtain ⟨a1, a2, a3⟩ := hG.at_ hne; repeat (first | exact a3 | refine upd_get (by omega) ?_) }) (allR_row L H _) (by repeat (first | exact upd_same _ _ _ | assumption | refine upd_get (by omega) ?_)) rfl rfl (by omega) (by omega) ?_)
            | (refine cw_t ?_)
            | (refine cw_f ?_)
            | (refine gw_run ?_)
            | (refine gw_tf ?_)
            | (refine gw_ft ?_)
            | (refine gw_un ?_)
            | (refine ow_pick_t ?_)
            | (refine ow_pick_f ?_)
            | (refine ow_new ?_)
            | (refine ow_nck_p ?_)
            | (refine ow_nck_i ?_)
            | (refine ow_nck_f ?_)
            | (refine ow_mki ?_)
            | (refine ow_fa rfl ?_)
            | (refine ow_ext rfl ?_)
            | (refine ow_not rfl ?_)
            | (refine ow_peq_pn rfl ?_)
            | (refine ow_peq_nn rfl ?_)
            | (refine ow_peq_np rfl ?_)
            | (refine ow_ieq_in rfl ?_)
            | (refine ow_ieq_nn rfl ?_)
            | (refine ow_ieq_ni rfl ?_)
            | (refine ow_mkf rfl rfl ?_)
            | (refine ow_box (by first | (simp only [cellsA]; rfl) | rfl) ?_)
            | (refine ow_len rfl ?_)
            | (refine ow_lss_t (by omega) ?_)
            | (refine ow_lss_f (by omega) ?_)
            | (refine ow_leq_t (by omega) ?_)
            | (refine ow_leq_f (by omega) ?_)
            | (refine ow_gtr_t (by omega) ?_)
            | (refine ow_gtr_f (by omega) ?_)
            | (refine ow_geq_t (by omega) ?_)
            | (refine ow_geq_f (by omega) ?_)
            | (refine ow_eql_t (by omega) ?_)
            | (refine ow_eql_f (by omega) ?_)
            | (refine ow_neq_t (by omega) ?_)
            | (refine ow_neq_f (by omega) ?_)
            | (refine ow_add_i rfl (by omega) (by omega) ?_)
            | (refine ow_sub_i rfl (by omega) (by omega) ?_)
            | (refine ow_conv_i (by omega) (by omega) ?_)
            | (refine ow_conv_u (by omega) (by omega) ?_)
            | (refine ow_iaA (by omega) (by omega) rfl ?_)
            | (refine ow_iaS (by omega) (by omega) rfl ?_)
            | (refine ow_ld (by repeat (first | exact upd_same _ _ _ | assumption | refine upd_get (by omega) ?_)) (by first | exact part_all rfl | rfl | (simp only [partA, if_true, List.drop_succ_cons, List.drop_zero, List.take_succ_cons, List.take_zero, List.length_cons, List.length_nil, Nat.reduceAdd, Nat.zero_add]; rfl)) ?_)
            | (refine ow_st (by repeat (first | exact upd_same _ _ _ | assumption | refine upd_get (by omega) ?_)) (by first | (simp only [cellsA]; rfl) | rfl) rfl (by first | (simp; done) | exact Nat.le_refl _) rfl (by first | exact splice_all rfl | (simp only [splice, List.take_succ_cons, List.take_zero, List.drop_succ_cons, List.drop_zero, List.length_cons, List.length_nil, List.cons_append, List.nil_append, Nat.reduceAdd, Nat.zero_add, Nat.add_zero]; rfl)) ?_)
            | (refine ow_build (by simp only [repl, List.append_nil, fillA, List.map, ev, cellsA, splice, List.take_succ_cons, List.take_zero, List.drop_succ_cons, List.drop_zero, List.length_cons, List.length_nil, List.cons_append, List.nil_append, Nat.reduceAdd, Nat.zero_add, Nat.add_zero, true_and, and_self, if_true, Nat.reduceLeDiff, Nat.le_refl]; rfl) ?_)
            | (refine ow_bsl (by simp only [repl, List.append_nil, fillA, List.map, ev, cellsA, splice, List.take_succ_cons, List.take_zero, List.drop_succ_cons, List.drop_zero, List.length_cons, List.length_nil, List.cons_append, List.nil_append, Nat.reduceAdd, Nat.zero_add, Nat.add_zero, true_and, and_self, if_true, Nat.reduceLeDiff, Nat.le_refl]; rfl) ?_)
            | (refine ldR_of (by repeat (first | exact upd_same _ _ _ | assumption | refine upd_get (by omega) ?_)) (by first | exact part_all rfl | rfl | (simp only [partA, if_true, List.drop_succ_cons, List.drop_zero, List.take_succ_cons, List.take_zero, List.length_cons, List.length_nil, Nat.reduceAdd, Nat.zero_add]; rfl)) ?_)
            | (refine dow_ld (by repeat (first | exact upd_same _ _ _ | assumption | refine upd_get (by omega) ?_)) (by first | exact part_all rfl | rfl | (simp only [partA, if_true, List.drop_succ_cons, List.drop_zero, List.take_succ_cons, List.take_zero, List.length_cons, List.length_nil, Nat.reduceAdd, Nat.zero_add]; rfl)) (by simp only [meets, and_true]; (try (repeat' apply And.intro)); all_goals (intro z; simp only [fp_d, fp_f, List.mem_cons, List.not_mem_nil, or_false, false_or, not_false_eq_true, true_and, and_true, Bool.false_eq_true, false_and, not_or]; omega)) ?_)
            | (refine dow_new (by simp only [meets, and_true]; (try (repeat' apply And.intro)); all_goals (intro z; simp only [fp_d, fp_f, List.mem_cons, List.not_mem_nil, or_false, false_or, not_false_eq_true, true_and, and_true, Bool.false_eq_true, false_and, not_or]; omega)) ?_)
            | (refine dow_box (by first | (simp only [cellsA]; rfl) | rfl) (by simp only [meets, and_true]; (try (repeat' apply And.intro)); all_goals (intro z; simp only [fp_d, fp_f, List.mem_cons, List.not_mem_nil, or_false, false_or, not_false_eq_true, true_and, and_true, Bool.false_eq_true, false_and, not_or]; omega)) ?_)
            | (refine dow_st (by repeat (first | exact upd_same _ _ _ | assumption | refine upd_get (by omega) ?_)) (by first | (simp only [cellsA]; rfl) | rfl) rfl (by first | (simp; done) | exact Nat.le_refl _) rfl (by first | exact splice_all rfl | (simp only [splice, List.take_succ_cons, List.take_zero, List.drop_succ_cons, List.drop_zero, List.length_cons, List.length_nil, List.cons_append, List.nil_append, Nat.reduceAdd, Nat.zero_add, Nat.add_zero]; rfl)) (by simp only [meets, and_true]; (try (repeat' apply And.intro)); all_goals (intro z; simp only [fp_d, fp_f, List.mem_cons, List.not_mem_nil, or_false, false_or, not_false_eq_true, true_and, and_true, Bool.false_eq_true, false_and, not_or]; omega)) ?_)
            | (refine dgw_run ?_)
            | (refine dgw_tf ?_)
            | (refine dgw_ft ?_)
            | (refine dgw_un ?_))
          have e : allR L H (8 * i + (j + 1)) = allR L H (8 * i + j) ++ [[.int .i64 ((i : Nat) : Int), .int .i64 ((j : Nat) : Int)]] := by
            rw [← Nat.add_assoc, allR_succ, ← hpl]; simp [hr, hH]
          refine ⟨8 - (j + 1), by omega, _, n2 + 1 + 1 + 1, j + 1, rfl, g0, g1, g16, g17, g6, g26, rfl, ?_, by omega, rfl, ?_⟩
          · rw [e, List.length_append]; rfl
          · rw [e]
            refine ⟨appH_good (x0 := n2 + 1 + 1) (by repeat (first | exact Good.mono (by assumption) (by omega) | (refine Good.upd ?_ (by omega) (by first | rfl | (refine belowL_mono ?_ _ (by assumption); omega) | (simp [belowB, belowL, below]; (try omega)))))) (fun hne => ?_) ?_, by omega, fun x hx => ?_, fun _ => ⟨by omega, by omega, appH_new⟩⟩
            · obtain ⟨a1, a2, a3⟩ := hG.at_ hne
              repeat (first | exact a3 | refine upd_get (by omega) ?_)
            · exact upd_same _ _ _
            · rw [appH_old (by omega) (fun hne => by have := (hG.at_ hne).1; omega)]
              repeat (first | exact old2 x hx | refine upd_get (by omega) ?_)
    · repeat (first
        | (refine cw_t ?_)
        | (refine cw_f ?_)
        | (refine gw_run ?_)
        | (refine gw_tf ?_)
        | (refine gw_ft ?_)
        | (refine gw_un ?_)
        | (refine ow_pick_t ?_)
        | (refine ow_pick_f ?_)
        | (refine ow_new ?_)
        | (refine ow_nck_p ?_)
        | (refine ow_nck_i ?_)
        | (refine ow_nck_f ?_)
        | (refine ow_mki ?_)
        | (refine ow_fa rfl ?_)
        | (refine ow_ext rfl ?_)
        | (refine ow_not rfl ?_)
        | (refine ow_peq_pn rfl ?_)
        | (refine ow_peq_nn rfl ?_)
        | (refine ow_peq_np rfl ?_)
        | (refine ow_ieq_in rfl ?_)
        | (refine ow_ieq_nn rfl ?_)
        | (refine ow_ieq_ni rfl ?_)
        | (refine ow_mkf rfl rfl ?_)
        | (refine ow_box (by first | (simp only [cellsA]; rfl) | rfl) ?_)
        | (refine ow_len rfl ?_)
        | (refine ow_lss_t (by omega) ?_)
        | (refine ow_lss_f (by omega) ?_)
        | (refine ow_leq_t (by omega) ?_)
        | (refine ow_leq_f (by omega) ?_)
        | (refine ow_gtr_t (by omega) ?_)
        | (refine ow_gtr_f (by omega) ?_)
        | (refine ow_geq_t (by omega) ?_)
        | (refine ow_geq_f (by omega) ?_)
        | (refine ow_eql_t (by omega) ?_)
        | (refine ow_eql_f (by omega) ?_)
        | (refine ow_neq_t (by omega) ?_)
        | (refine ow_neq_f (by omega) ?_)
        | (refine ow_add_i rfl (by omega) (by omega) ?_)
        | (refine ow_sub_i rfl (by omega) (by omega) ?_)
        | (refine ow_conv_i (by omega) (by omega) ?_)
        | (refine ow_conv_u (by omega) (by omega) ?_)
        | (refine ow_iaA (by omega) (by omega) rfl ?_)
        | (refine ow_iaS (by omega) (by omega) rfl ?_)
        | (refine ow_ld (by repeat (first | exact upd_same _ _ _ | assumption | refine upd_get (by omega) ?_)) (by first | exact part_all rfl | rfl | (simp only [partA, if_true, List.drop_succ_cons, List.drop_zero, List.take_succ_cons, List.take_zero, List.length_cons, List.length_nil, Nat.reduceAdd, Nat.zero_add]; rfl)) ?_)
        | (refine ow_st (by repeat (first | exact upd_same _ _ _ | assumption | refine upd_get (by omega) ?_)) (by first | (simp only [cellsA]; rfl) | rfl) rfl (by first | (simp; done) | exact Nat.le_refl _) rfl (by first | exact splice_all rfl | (simp only [splice, List.take_succ_cons, List.take_zero, List.drop_succ_cons, List.drop_zero, List.length_cons, List.length_nil, List.cons_append, List.nil_append, Nat.reduceAdd, Nat.zero_add, Nat.add_zero]; rfl)) ?_)
        | (refine ow_build (by simp only [repl, List.append_nil, fillA, List.map, ev, cellsA, splice, List.take_succ_cons, List.take_zero, List.drop_succ_cons, List.drop_zero, List.length_cons, List.length_nil, List.cons_append, List.nil_append, Nat.reduceAdd, Nat.zero_add, Nat.add_zero, true_and, and_self, if_true, Nat.reduceLeDiff, Nat.le_refl]; rfl) ?_)
        | (refine ow_bsl (by simp only [repl, List.append_nil, fillA, List.map, ev, cellsA, splice, List.take_succ_cons, List.take_zero, List.drop_succ_cons, List.drop_zero, List.length_cons, List.length_nil, List.cons_append, List.nil_append, Nat.reduceAdd, Nat.zero_add, Nat.add_zero, true_and, and_self, if_true, Nat.reduceLeDiff, Nat.le_refl]; rfl) ?_)
        | (refine ldR_of (by repeat (first | exact upd_same _ _ _ | assumption | refine upd_get (by omega) ?_)) (by first | exact part_all rfl | rfl | (simp only [partA, if_true, List.drop_succ_cons, List.drop_zero, List.take_succ_cons, List.take_zero, List.length_cons, List.length_nil, Nat.reduceAdd, Nat.zero_add]; rfl)) ?_)
        | (refine dow_ld (by repeat (first | exact upd_same _ _ _ | assumption | refine upd_get (by omega) ?_)) (by first | exact part_all rfl | rfl | (simp only [partA, if_true, List.drop_succ_cons, List.drop_zero, List.take_succ_cons, List.take_zero, List.length_cons, List.length_nil, Nat.reduceAdd, Nat.zero_add]; rfl)) (by simp only [meets, and_true]; (try (repeat' apply And.intro)); all_goals (intro z; simp only [fp_d, fp_f, List.mem_cons, List.not_mem_nil, or_false, false_or, not_false_eq_true, true_and, and_true, Bool.false_eq_true, false_and, not_or]; omega)) ?_)
        | (refine dow_new (by simp only [meets, and_true]; (try (repeat' apply And.intro)); all_goals (intro z; simp only [fp_d, fp_f, List.mem_cons, List.not_mem_nil, or_false, false_or, not_false_eq_true, true_and, and_true, Bool.false_eq_true, false_and, not_or]; omega)) ?_)
        | (refine dow_box (by first | (simp only [cellsA]; rfl) | rfl) (by simp only [meets, and_true]; (try (repeat' apply And.intro)); all_goals (intro z; simp only [fp_d, fp_f, List.mem_cons, List.not_mem_nil, or_false, false_or, not_false_eq_true, true_and, and_true, Bool.false_eq_true, false_and, not_or]; omega)) ?_)
        | (refine dow_st (by repeat (first | exact upd_same _ _ _ | assumption | refine upd_get (by omega) ?_)) (by first | (simp only [cellsA]; rfl) | rfl) rfl (by first | (simp; done) | exact Nat.le_refl _) rfl (by first | exact splice_all rfl | (simp only [splice, List.take_succ_cons, List.take_zero, List.drop_succ_cons, List.drop_zero, List.length_cons, List.length_nil, List.cons_append, List.nil_append, Nat.reduceAdd, Nat.zero_add, Nat.add_zero]; rfl)) (by simp only [meets, and_true]; (try (repeat' apply And.intro)); all_goals (intro z; simp only [fp_d, fp_f, List.mem_cons, List.not_mem_nil, or_false, false_or, not_false_eq_true, true_and, and_true, Bool.false_eq_true, false_and, not_or]; omega)) ?_)
        | (refine dgw_run ?_)
        | (refine dgw_tf ?_)
        | (refine dgw_ft ?_)
        | (refine dgw_un ?_))
      rw [loopK_exit, X120_1_2_eq]
      unfold X120_1_2
      show opW _ (.bin .add (.c (gg 17)) _) _ _ _
      rw [g17]
      repeat (first
        | (refine cw_t ?_)
        | (refine cw_f ?_)
        | (refine gw_run ?_)
        | (refine gw_tf ?_)
        | (refine gw_ft ?_)
        | (refine gw_un ?_)
        | (refine ow_pick_t ?_)
        | (refine ow_pick_f ?_)
        | (refine ow_new ?_)
        | (refine ow_nck_p ?_)
        | (refine ow_nck_i ?_)
        | (refine ow_nck_f ?_)
        | (refine ow_mki ?_)
        | (refine ow_fa rfl ?_)
        | (refine ow_ext rfl ?_)
        | (refine ow_not rfl ?_)
        | (refine ow_peq_pn rfl ?_)
        | (refine ow_peq_nn rfl ?_)
        | (refine ow_peq_np rfl ?_)
        | (refine ow_ieq_in rfl ?_)
        | (refine ow_ieq_nn rfl ?_)
        | (refine ow_ieq_ni rfl ?_)
        | (refine ow_mkf rfl rfl ?_)
        | (refine ow_box (by first | (simp only [cellsA]; rfl) | rfl) ?_)
        | (refine ow_len rfl ?_)
        | (refine ow_lss_t (by omega) ?_)
        | (refine ow_lss_f (by omega) ?_)
        | (refine ow_leq_t (by omega) ?_)
        | (refine ow_leq_f (by omega) ?_)
        | (refine ow_gtr_t (by omega) ?_)
        | (refine ow_gtr_f (by omega) ?_)
        | (refine ow_geq_t (by omega) ?_)
        | (refine ow_geq_f (by omega) ?_)
        | (refine ow_eql_t (by omega) ?_)
        | (refine ow_eql_f (by omega) ?_)
        | (refine ow_neq_t (by omega) ?_)
        | (refine ow_neq_f (by omega) ?_)
        | (refine ow_add_i rfl (by omega) (by omega) ?_)
        | (refine ow_sub_i rfl (by omega) (by omega) ?_)
        | (refine ow_conv_i (by omega) (by omega) ?_)
        | (refine ow_conv_u (by omega) (by omega) ?_)
        | (refine ow_iaA (by omega) (by omega) rfl ?_)
        | (refine ow_iaS (by omega) (by omega) rfl ?_)
        | (refine ow_ld (by repeat (first | exact upd_same _ _ _ | assumption | refine upd_get (by omega) ?_)) (by first | exact part_all rfl | rfl | (simp only [partA, if_true, List.drop_succ_cons, List.drop_zero, List.take_succ_cons, List.take_zero, List.length_cons, List.length_nil, Nat.reduceAdd, Nat.zero_add]; rfl)) ?_)
        | (refine ow_st (by repeat (first | exact upd_same _ _ _ | assumption | refine upd_get (by omega) ?_)) (by first | (simp only [cellsA]; rfl) | rfl) rfl (by first | (simp; done) | exact Nat.le_refl _) rfl (by first | exact splice_all rfl | (simp only [splice, List.take_succ_cons, List.take_zero, List.drop_succ_cons, List.drop_zero, List.length_cons, List.length_nil, List.cons_append, List.nil_append, Nat.reduceAdd, Nat.zero_add, Nat.add_zero]; rfl)) ?_)
        | (refine ow_build (by simp only [repl, List.append_nil, fillA, List.map, ev, cellsA, splice, List.take_succ_cons, List.take_zero, List.drop_succ_cons, List.drop_zero, List.length_cons, List.length_nil, List.cons_append, List.nil_append, Nat.reduceAdd, Nat.zero_add, Nat.add_zero, true_and, and_self, if_true, Nat.reduceLeDiff, Nat.le_refl]; rfl) ?_)
        | (refine ow_bsl (by simp only [repl, List.append_nil, fillA, List.map, ev, cellsA, splice, List.take_succ_cons, List.take_zero, List.drop_succ_cons, List.drop_zero, List.length_cons, List.length_nil, List.cons_append, List.nil_append, Nat.reduceAdd, Nat.zero_add, Nat.add_zero, true_and, and_self, if_true, Nat.reduceLeDiff, Nat.le_refl]; rfl) ?_)
        | (refine ldR_of (by repeat (first | exact upd_same _ _ _ | assumption | refine upd_get (by omega) ?_)) (by first | exact part_all rfl | rfl | (simp only [partA, if_true, List.drop_succ_cons, List.drop_zero, List.take_succ_cons, List.take_zero, List.length_cons, List.length_nil, Nat.reduceAdd, Nat.zero_add]; rfl)) ?_)
        | (refine dow_ld (by repeat (first | exact upd_same _ _ _ | assumption | refine upd_get (by omega) ?_)) (by first | exact part_all rfl | rfl | (simp only [partA, if_true, List.drop_succ_cons, List.drop_zero, List.take_succ_cons, List.take_zero, List.length_cons, List.length_nil, Nat.reduceAdd, Nat.zero_add]; rfl)) (by simp only [meets, and_true]; (try (repeat' apply And.intro)); all_goals (intro z; simp only [fp_d, fp_f, List.mem_cons, List.not_mem_nil, or_false, false_or, not_false_eq_true, true_and, and_true, Bool.false_eq_true, false_and, not_or]; omega)) ?_)
        | (refine dow_new (by simp only [meets, and_true]; (try (repeat' apply And.intro)); all_goals (intro z; simp only [fp_d, fp_f, List.mem_cons, List.not_mem_nil, or_false, false_or, not_false_eq_true, true_and, and_true, Bool.false_eq_true, false_and, not_or]; omega)) ?_)
        | (refine dow_box (by first | (simp only [cellsA]; rfl) | rfl) (by simp only [meets, and_true]; (try (repeat' apply And.intro)); all_goals (intro z; simp only [fp_d, fp_f, List.mem_cons, List.not_mem_nil, or_false, false_or, not_false_eq_true, true_and, and_true, Bool.false_eq_true, false_and, not_or]; omega)) ?_)
        | (refine dow_st (by repeat (first | exact upd_same _ _ _ | assumption | refine upd_get (by omega) ?_)) (by first | (simp only [cellsA]; rfl) | rfl) rfl (by first | (simp; done) | exact Nat.le_refl _) rfl (by first | exact splice_all rfl | (simp only [splice, List.take_succ_cons, List.take_zero, List.drop_succ_cons, List.drop_zero, List.length_cons, List.length_nil, List.cons_append, List.nil_append, Nat.reduceAdd, Nat.zero_add, Nat.add_zero]; rfl)) (by simp only [meets, and_true]; (try (repeat' apply And.intro)); all_goals (intro z; simp only [fp_d, fp_f, List.mem_cons, List.not_mem_nil, or_false, false_or, not_false_eq_true, true_and, and_true, Bool.false_eq_true, false_and, not_or]; omega)) ?_)
        | (refine dgw_run ?_)
        | (refine dgw_tf ?_)
        | (refine dgw_ft ?_)
        | (refine dgw_un ?_))
      have hj8 : j = 8 := by omega
      subst hj8
      exact ⟨E - (i + 1), by omega, _, b, i + 1, rfl, g0, g1, g16, rfl, g5, by omega, rfl, hG⟩
  · repeat (first
      | (refine cw_t ?_)
      | (refine cw_f ?_)
      | (refine gw_run ?_)
      | (refine gw_tf ?_)
      | (refine gw_ft ?_)
      | (refine gw_un ?_)
      | (refine ow_pick_t ?_)
      | (refine ow_pick_f ?_)
      | (refine ow_new ?_)
      | (refine ow_nck_p ?_)
      | (refine ow_nck_i ?_)
      | (refine ow_nck_f ?_)
      | (refine ow_mki ?_)
      | (refine ow_fa rfl ?_)
      | (refine ow_ext rfl ?_)
      | (refine ow_not rfl ?_)
      | (refine ow_peq_pn rfl ?_)
      | (refine ow_peq_nn rfl ?_)
      | (refine ow_peq_np rfl ?_)
      | (refine ow_ieq_in rfl ?_)
      | (refine ow_ieq_nn rfl ?_)
      | (refine ow_ieq_ni rfl ?_)
      | (refine ow_mkf rfl rfl ?_)
      | (refine ow_box (by first | (simp only [cellsA]; rfl) | rfl) ?_)
      | (refine ow_len rfl ?_)
      | (refine ow_lss_t (by omega) ?_)
      | (refine ow_lss_f (by omega) ?_)
      | (refine ow_leq_t (by omega) ?_)
      | (refine ow_leq_f (by omega) ?_)
      | (refine ow_gtr_t (by omega) ?_)
      | (refine ow_gtr_f (by omega) ?_)
      | (refine ow_geq_t (by omega) ?_)
      | (refine ow_geq_f (by omega) ?_)
      | (refine ow_eql_t (by omega) ?_)
      | (refine ow_eql_f (by omega) ?_)
      | (refine ow_neq_t (by omega) ?_)
      | (refine ow_neq_f (by omega) ?_)
      | (refine ow_add_i rfl (by omega) (by omega) ?_)
      | (refine ow_sub_i rfl (by omega) (by omega) ?_)
      | (refine ow_conv_i (by omega) (by omega) ?_)
      | (refine ow_conv_u (by omega) (by omega) ?_)
      | (refine ow_iaA (by omega) (by omega) rfl ?_)
      | (refine ow_iaS (by omega) (by omega) rfl ?_)
      | (refine ow_ld (by repeat (first | exact upd_same _ _ _ | assumption | refine upd_get (by omega) ?_)) (by first | exact part_all rfl | rfl | (simp only [partA, if_true, List.drop_succ_cons, List.drop_zero, List.take_succ_cons, List.take_zero, List.length_cons, List.length_nil, Nat.reduceAdd, Nat.zero_add]; rfl)) ?_)
      | (refine ow_st (by repeat (first | exact upd_same _ _ _ | assumption | refine upd_get (by omega) ?_)) (by first | (simp only [cellsA]; rfl) | rfl) rfl (by first | (simp; done) | exact Nat.le_refl _) rfl (by first | exact splice_all rfl | (simp only [splice, List.take_succ_cons, List.take_zero, List.drop_succ_cons, List.drop_zero, List.length_cons, List.length_nil, List.cons_append, List.nil_append, Nat.reduceAdd, Nat.zero_add, Nat.add_zero]; rfl)) ?_)
      | (refine ow_build (by simp only [repl, List.append_nil, fillA, List.map, ev, cellsA, splice, List.take_succ_cons, List.take_zero, List.drop_succ_cons, List.drop_zero, List.length_cons, List.length_nil, List.cons_append, List.nil_append, Nat.reduceAdd, Nat.zero_add, Nat.add_zero, true_and, and_self, if_true, Nat.reduceLeDiff, Nat.le_refl]; rfl) ?_)
      | (refine ow_bsl (by simp only [repl, List.append_nil, fillA, List.map, ev, cellsA, splice, List.take_succ_cons, List.take_zero, List.drop_succ_cons, List.drop_zero, List.length_cons, List.length_nil, List.cons_append, List.nil_append, Nat.reduceAdd, Nat.zero_add, Nat.add_zero, true_and, and_self, if_true, Nat.reduceLeDiff, Nat.le_refl]; rfl) ?_)
      | (refine ldR_of (by repeat (first | exact upd_same _ _ _ | assumption | refine upd_get (by omega) ?_)) (by first | exact part_all rfl | rfl | (simp only [partA, if_true, List.drop_succ_cons, List.drop_zero, List.take_succ_cons, List.take_zero, List.length_cons, List.length_nil, Nat.reduceAdd, Nat.zero_add]; rfl)) ?_)
      | (refine dow_ld (by repeat (first | exact upd_same _ _ _ | assumption | refine upd_get (by omega) ?_)) (by first | exact part_all rfl | rfl | (simp only [partA, if_true, List.drop_succ_cons, List.drop_zero, List.take_succ_cons, List.take_zero, List.length_cons, List.length_nil, Nat.reduceAdd, Nat.zero_add]; rfl)) (by simp only [meets, and_true]; (try (repeat' apply And.intro)); all_goals (intro z; simp only [fp_d, fp_f, List.mem_cons, List.not_mem_nil, or_false, false_or, not_false_eq_true, true_and, and_true, Bool.false_eq_true, false_and, not_or]; omega)) ?_)
      | (refine dow_new (by simp only [meets, and_true]; (try (repeat' apply And.intro)); all_goals (intro z; simp only [fp_d, fp_f, List.mem_cons, List.not_mem_nil, or_false, false_or, not_false_eq_true, true_and, and_true, Bool.false_eq_true, false_and, not_or]; omega)) ?_)
      | (refine dow_box (by first | (simp only [cellsA]; rfl) | rfl) (by simp only [meets, and_true]; (try (repeat' apply And.intro)); all_goals (intro z; simp only [fp_d, fp_f, List.mem_cons, List.not_mem_nil, or_false, false_or, not_false_eq_true, true_and, and_true, Bool.false_eq_true, false_and, not_or]; omega)) ?_)
      | (refine dow_st (by repeat (first | exact upd_same _ _ _ | assumption | refine upd_get (by omega) ?_)) (by first | (simp only [cellsA]; rfl) | rfl) rfl (by first | (simp; done) | exact Nat.le_refl _) rfl (by first | exact splice_all rfl | (simp only [splice, List.take_succ_cons, List.take_zero, List.drop_succ_cons, List.drop_zero, List.length_cons, List.length_nil, List.cons_append, List.nil_append, Nat.reduceAdd, Nat.zero_add, Nat.add_zero]; rfl)) (by simp only [meets, and_true]; (try (repeat' apply And.intro)); all_goals (intro z; simp only [fp_d, fp_f, List.mem_cons, List.not_mem_nil, or_false, false_or, not_false_eq_true, true_and, and_true, Bool.false_eq_true, false_and, not_or]; omega)) ?_)
      | (refine dgw_run ?_)
      | (refine dgw_tf ?_)
      | (refine dgw_ft ?_)
      | (refine dgw_un ?_))
    rw [loopK_exit, X120_0_0_eq]
    have hiE : i = E := by omega
    subst hiE
    exact ⟨b, g5, hG⟩
end Go.Proofs.As0
/- Contracts: epochs. -/
namespace Go.Proofs.As0
open Go Go.Eng
attribute [local irreducible] opW callW cvW invW grdW cndW ldR dopW dcallW dcvW dgrdW loopW

theorem ow_sub_u {P : Program} {h : Heap} {n : Nat} {k : KT} {x y z : Int} (hz : x - y = z) (h1 : 0 ≤ z) (h2 : z < 18446744073709551616) (hk : k (.int .u64 z) h n) : opW P (.bin .sub (.c (.int .u64 x)) (.c (.int .u64 y))) h n k := by
  subst hz
  exact ow_sub (by rw [wrap_u64 h1 h2]; exact hk)

def coreRow (c : Nat) : List AV := [.int .i64 (c : Int)]
def heardRow (u : Nat) : List AV := [.int .u64 (u : Int)]
theorem coreRow_len (c : Nat) : (coreRow c).length = 1 := rfl
theorem heardRow_len (c : Nat) : (heardRow c).length = 1 := rfl

/-- The epochs at t: m of them, begun by the cores F; C cores, of which each heard of H. -/
structure EpAt (h : Heap) (t fb hb C m : Nat) (F H : Nat → Nat) : Prop where
  ct : h t = some (.cells 0 [slV fb m, .sl hb 0 0 C (some C)])
  cf : m ≠ 0 → h fb = some (.cells 1 (enc coreRow m F))
  cb : h hb = some (.cells 1 (enc heardRow C H))
  ne1 : hb ≠ t
  ne2 : m ≠ 0 → fb ≠ hb ∧ fb ≠ t
  lim : m < 1000000
  lim2 : C ≤ 8

section
variable {t fb hb C m : Nat} {F H : Nat → Nat} {h : Heap} {n : Nat}

theorem EpAt.keep {h' : Heap} (g : Good n h) (T : EpAt h t fb hb C m F H) (old : ∀ x, x < n → h' x = h x) : EpAt h' t fb hb C m F H :=
  ⟨by rw [old t (g.lt T.ct)]; exact T.ct, fun hm => by rw [old fb (g.lt (T.cf hm))]; exact T.cf hm, by rw [old hb (g.lt T.cb)]; exact T.cb, T.ne1, T.ne2, T.lim, T.lim2⟩

theorem newEp_ev (hC : 1 ≤ C) (hC8 : C ≤ 8) (h : Heap) (n : Nat) : FEv Tryz.prog 28 [.int .i64 (C : Int)] h n (.ptr (n + 1) 0) (upd (upd h n (some (.cells 1 (enc heardRow C fun _ => 0)))) (n + 1) (some (.cells 0 [.nilsl, .sl n 0 0 C (some C)]))) (n + 2) := by
  refine fev_exact (W28_ok ?_)
  unfold W28
  repeat (first
    | (refine ow_mks (by omega) (by omega) (by omega) (by omega) rfl ?_)
    | (refine cw_t ?_)
    | (refine cw_f ?_)
    | (refine gw_run ?_)
    | (refine gw_tf ?_)
    | (refine gw_ft ?_)
    | (refine gw_un ?_)
    | (refine ow_pick_t ?_)
    | (refine ow_pick_f ?_)
    | (refine ow_new ?_)
    | (refine ow_nck_p ?_)
    | (refine ow_nck_i ?_)
    | (refine ow_nck_f ?_)
    | (refine ow_mki ?_)
    | (refine ow_fa rfl ?_)
    | (refine ow_ext rfl ?_)
    | (refine ow_not rfl ?_)
    | (refine ow_peq_pn rfl ?_)
    | (refine ow_peq_nn rfl ?_)
    | (refine ow_peq_np rfl ?_)
    | (refine ow_ieq_in rfl ?_)
    | (refine ow_ieq_nn rfl ?_)
    | (refine ow_ieq_ni rfl ?_)
    | (refine ow_mkf rfl rfl ?_)
    | (refine ow_box (by first | (simp only [cellsA]; rfl) | rfl) ?_)
    | (refine ow_len rfl ?_)
    | (refine ow_lss_t (by omega) ?_)
    | (refine ow_lss_f (by omega) ?_)
    | (refine ow_leq_t (by omega) ?_)
    | (refine ow_leq_f (by omega) ?_)
    | (refine ow_gtr_t (by omega) ?_)
    | (refine ow_gtr_f (by omega) ?_)
    | (refine ow_geq_t (by omega) ?_)
    | (refine ow_geq_f (by omega) ?_)
    | (refine ow_eql_t (by omega) ?_)
    | (refine ow_eql_f (by omega) ?_)
    | (refine ow_neq_t (by omega) ?_)
    | (refine ow_neq_f (by omega) ?_)
    | (refine ow_add_i rfl (by omega) (by omega) ?_)
    | (refine ow_sub_i rfl (by omega) (by omega) ?_)
    | (refine ow_conv_i (by omega) (by omega) ?_)
    | (refine ow_conv_u (by omega) (by omega) ?_)
    | (refine ow_iaA (by omega) (by omega) rfl ?_)
    | (refine ow_iaS (by omega) (by omega) rfl ?_)
    | (refine ow_ld (by repeat (first | exact upd_same _ _ _ | assumption | refine upd_get (by omega) ?_)) (by first | exact part_all rfl | rfl | (simp only [partA, if_true, List.drop_succ_cons, List.drop_zero, List.take_succ_cons, List.take_zero, List.length_cons, List.length_nil, Nat.reduceAdd, Nat.zero_add]; rfl)) ?_)
    | (refine ow_st (by repeat (first | exact upd_same _ _ _ | assumption | refine upd_get (by omega) ?_)) (by first | (simp only [cellsA]; rfl) | rfl) rfl (by first | (simp; done) | exact Nat.le_refl _) rfl (by first | exact splice_all rfl | (simp only [splice, List.take_succ_cons, List.take_zero, List.drop_succ_cons, List.drop_zero, List.length_cons, List.length_nil, List.cons_append, List.nil_append, Nat.reduceAdd, Nat.zero_add, Nat.add_zero]; rfl)) ?_)
    | (refine ow_build (by simp only [repl, List.append_nil, fillA, List.map, ev, cellsA, splice, List.take_succ_cons, List.take_zero, List.drop_succ_cons, List.drop_zero, List.length_cons, List.length_nil, List.cons_append, List.nil_append, Nat.reduceAdd, Nat.zero_add, Nat.add_zero, true_and, and_self, if_true, Nat.reduceLeDiff, Nat.le_refl]; rfl) ?_)
    | (refine ow_bsl (by simp only [repl, List.append_nil, fillA, List.map, ev, cellsA, splice, List.take_succ_cons, List.take_zero, List.drop_succ_cons, List.drop_zero, List.length_cons, List.length_nil, List.cons_append, List.nil_append, Nat.reduceAdd, Nat.zero_add, Nat.add_zero, true_and, and_self, if_true, Nat.reduceLeDiff, Nat.le_refl]; rfl) ?_)
    | (refine ldR_of (by repeat (first | exact upd_same _ _ _ | assumption | refine upd_get (by omega) ?_)) (by first | exact part_all rfl | rfl | (simp only [partA, if_true, List.drop_succ_cons, List.drop_zero, List.take_succ_cons, List.take_zero, List.length_cons, List.length_nil, Nat.reduceAdd, Nat.zero_add]; rfl)) ?_)
    | (refine dow_ld (by repeat (first | exact upd_same _ _ _ | assumption | refine upd_get (by omega) ?_)) (by first | exact part_all rfl | rfl | (simp only [partA, if_true, List.drop_succ_cons, List.drop_zero, List.take_succ_cons, List.take_zero, List.length_cons, List.length_nil, Nat.reduceAdd, Nat.zero_add]; rfl)) (by simp only [meets, and_true]; (try (repeat' apply And.intro)); all_goals (intro z; simp only [fp_d, fp_f, List.mem_cons, List.not_mem_nil, or_false, false_or, not_false_eq_true, true_and, and_true, Bool.false_eq_true, false_and, not_or]; omega)) ?_)
    | (refine dow_new (by simp only [meets, and_true]; (try (repeat' apply And.intro)); all_goals (intro z; simp only [fp_d, fp_f, List.mem_cons, List.not_mem_nil, or_false, false_or, not_false_eq_true, true_and, and_true, Bool.false_eq_true, false_and, not_or]; omega)) ?_)
    | (refine dow_box (by first | (simp only [cellsA]; rfl) | rfl) (by simp only [meets, and_true]; (try (repeat' apply And.intro)); all_goals (intro z; simp only [fp_d, fp_f, List.mem_cons, List.not_mem_nil, or_false, false_or, not_false_eq_true, true_and, and_true, Bool.false_eq_true, false_and, not_or]; omega)) ?_)
    | (refine dow_st (by repeat (first | exact upd_same _ _ _ | assumption | refine upd_get (by omega) ?_)) (by first | (simp only [cellsA]; rfl) | rfl) rfl (by first | (simp; done) | exact Nat.le_refl _) rfl (by first | exact splice_all rfl | (simp only [splice, List.take_succ_cons, List.take_zero, List.drop_succ_cons, List.drop_zero, List.length_cons, List.length_nil, List.cons_append, List.nil_append, Nat.reduceAdd, Nat.zero_add, Nat.add_zero]; rfl)) (by simp only [meets, and_true]; (try (repeat' apply And.intro)); all_goals (intro z; simp only [fp_d, fp_f, List.mem_cons, List.not_mem_nil, or_false, false_or, not_false_eq_true, true_and, and_true, Bool.false_eq_true, false_and, not_or]; omega)) ?_)
    | (refine dgw_run ?_)
    | (refine dgw_tf ?_)
    | (refine dgw_ft ?_)
    | (refine dgw_un ?_))
  refine ⟨rfl, ?_, rfl⟩
  have : ((C : Int)).toNat = C := by omega
  rw [this, ← repl_enc]
  rfl

theorem now_ev (T : EpAt h t fb hb C m F H) : FEv Tryz.prog 82 [.ptr t 0] h n (.int .u64 (m : Int)) h n := by
  have ht := T.ct
  have := T.lim
  refine fev_exact (W82_ok ?_)
  unfold W82
  repeat (first
    | (refine ow_len (lenA_slV _ _) ?_)
    | (refine cw_t ?_)
    | (refine cw_f ?_)
    | (refine gw_run ?_)
    | (refine gw_tf ?_)
    | (refine gw_ft ?_)
    | (refine gw_un ?_)
    | (refine ow_pick_t ?_)
    | (refine ow_pick_f ?_)
    | (refine ow_new ?_)
    | (refine ow_nck_p ?_)
    | (refine ow_nck_i ?_)
    | (refine ow_nck_f ?_)
    | (refine ow_mki ?_)
    | (refine ow_fa rfl ?_)
    | (refine ow_ext rfl ?_)
    | (refine ow_not rfl ?_)
    | (refine ow_peq_pn rfl ?_)
    | (refine ow_peq_nn rfl ?_)
    | (refine ow_peq_np rfl ?_)
    | (refine ow_ieq_in rfl ?_)
    | (refine ow_ieq_nn rfl ?_)
    | (refine ow_ieq_ni rfl ?_)
    | (refine ow_mkf rfl rfl ?_)
    | (refine ow_box (by first | (simp only [cellsA]; rfl) | rfl) ?_)
    | (refine ow_len rfl ?_)
    | (refine ow_lss_t (by omega) ?_)
    | (refine ow_lss_f (by omega) ?_)
    | (refine ow_leq_t (by omega) ?_)
    | (refine ow_leq_f (by omega) ?_)
    | (refine ow_gtr_t (by omega) ?_)
    | (refine ow_gtr_f (by omega) ?_)
    | (refine ow_geq_t (by omega) ?_)
    | (refine ow_geq_f (by omega) ?_)
    | (refine ow_eql_t (by omega) ?_)
    | (refine ow_eql_f (by omega) ?_)
    | (refine ow_neq_t (by omega) ?_)
    | (refine ow_neq_f (by omega) ?_)
    | (refine ow_add_i rfl (by omega) (by omega) ?_)
    | (refine ow_sub_i rfl (by omega) (by omega) ?_)
    | (refine ow_conv_i (by omega) (by omega) ?_)
    | (refine ow_conv_u (by omega) (by omega) ?_)
    | (refine ow_iaA (by omega) (by omega) rfl ?_)
    | (refine ow_iaS (by omega) (by omega) rfl ?_)
    | (refine ow_ld (by repeat (first | exact upd_same _ _ _ | assumption | refine upd_get (by omega) ?_)) (by first | exact part_all rfl | rfl | (simp only [partA, if_true, List.drop_succ_cons, List.drop_zero, List.take_succ_cons, List.take_zero, List.length_cons, List.length_nil, Nat.reduceAdd, Nat.zero_add]; rfl)) ?_)
    | (refine ow_st (by repeat (first | exact upd_same _ _ _ | assumption | refine upd_get (by omega) ?_)) (by first | (simp only [cellsA]; rfl) | rfl) rfl (by first | (simp; done) | exact Nat.le_refl _) rfl (by first | exact splice_all rfl | (simp only [splice, List.take_succ_cons, List.take_zero, List.drop_succ_cons, List.drop_zero, List.length_cons, List.length_nil, List.cons_append, List.nil_append, Nat.reduceAdd, Nat.zero_add, Nat.add_zero]; rfl)) ?_)
    | (refine ow_build (by simp only [repl, List.append_nil, fillA, List.map, ev, cellsA, splice, List.take_succ_cons, List.take_zero, List.drop_succ_cons, List.drop_zero, List.length_cons, List.length_nil, List.cons_append, List.nil_append, Nat.reduceAdd, Nat.zero_add, Nat.add_zero, true_and, and_self, if_true, Nat.reduceLeDiff, Nat.le_refl]; rfl) ?_)
    | (refine ow_bsl (by simp only [repl, List.append_nil, fillA, List.map, ev, cellsA, splice, List.take_succ_cons, List.take_zero, List.drop_succ_cons, List.drop_zero, List.length_cons, List.length_nil, List.cons_append, List.nil_append, Nat.reduceAdd, Nat.zero_add, Nat.add_zero, true_and, and_self, if_true, Nat.reduceLeDiff, Nat.le_refl]; rfl) ?_)
    | (refine ldR_of (by repeat (first | exact upd_same _ _ _ | assumption | refine upd_get (by omega) ?_)) (by first | exact part_all rfl | rfl | (simp only [partA, if_true, List.drop_succ_cons, List.drop_zero, List.take_succ_cons, List.take_zero, List.length_cons, List.length_nil, Nat.reduceAdd, Nat.zero_add]; rfl)) ?_)
    | (refine dow_ld (by repeat (first | exact upd_same _ _ _ | assumption | refine upd_get (by omega) ?_)) (by first | exact part_all rfl | rfl | (simp only [partA, if_true, List.drop_succ_cons, List.drop_zero, List.take_succ_cons, List.take_zero, List.length_cons, List.length_nil, Nat.reduceAdd, Nat.zero_add]; rfl)) (by simp only [meets, and_true]; (try (repeat' apply And.intro)); all_goals (intro z; simp only [fp_d, fp_f, List.mem_cons, List.not_mem_nil, or_false, false_or, not_false_eq_true, true_and, and_true, Bool.false_eq_true, false_and, not_or]; omega)) ?_)
    | (refine dow_new (by simp only [meets, and_true]; (try (repeat' apply And.intro)); all_goals (intro z; simp only [fp_d, fp_f, List.mem_cons, List.not_mem_nil, or_false, false_or, not_false_eq_true, true_and, and_true, Bool.false_eq_true, false_and, not_or]; omega)) ?_)
    | (refine dow_box (by first | (simp only [cellsA]; rfl) | rfl) (by simp only [meets, and_true]; (try (repeat' apply And.intro)); all_goals (intro z; simp only [fp_d, fp_f, List.mem_cons, List.not_mem_nil, or_false, false_or, not_false_eq_true, true_and, and_true, Bool.false_eq_true, false_and, not_or]; omega)) ?_)
    | (refine dow_st (by repeat (first | exact upd_same _ _ _ | assumption | refine upd_get (by omega) ?_)) (by first | (simp only [cellsA]; rfl) | rfl) rfl (by first | (simp; done) | exact Nat.le_refl _) rfl (by first | exact splice_all rfl | (simp only [splice, List.take_succ_cons, List.take_zero, List.drop_succ_cons, List.drop_zero, List.length_cons, List.length_nil, List.cons_append, List.nil_append, Nat.reduceAdd, Nat.zero_add, Nat.add_zero]; rfl)) (by simp only [meets, and_true]; (try (repeat' apply And.intro)); all_goals (intro z; simp only [fp_d, fp_f, List.mem_cons, List.not_mem_nil, or_false, false_or, not_false_eq_true, true_and, and_true, Bool.false_eq_true, false_and, not_or]; omega)) ?_)
    | (refine dgw_run ?_)
    | (refine dgw_tf ?_)
    | (refine dgw_ft ?_)
    | (refine dgw_un ?_))
  exact ⟨rfl, rfl, rfl⟩

theorem isCore_ev (T : EpAt h t fb hb C m F H) (c : Int) : FEv Tryz.prog 103 [.ptr t 0, .int .i64 c] h n (.bool (decide (0 ≤ c ∧ c < (C : Int)))) h n := by
  have ht := T.ct
  have := T.lim2
  refine fev_exact (W103_ok ?_)
  unfold W103
  by_cases h1 : 0 ≤ c
  · by_cases h2 : c < (C : Int)
    · repeat (first
        | (refine cw_t ?_)
        | (refine cw_f ?_)
        | (refine gw_run ?_)
        | (refine gw_tf ?_)
        | (refine gw_ft ?_)
        | (refine gw_un ?_)
        | (refine ow_pick_t ?_)
        | (refine ow_pick_f ?_)
        | (refine ow_new ?_)
        | (refine ow_nck_p ?_)
        | (refine ow_nck_i ?_)
        | (refine ow_nck_f ?_)
        | (refine ow_mki ?_)
        | (refine ow_fa rfl ?_)
        | (refine ow_ext rfl ?_)
        | (refine ow_not rfl ?_)
        | (refine ow_peq_pn rfl ?_)
        | (refine ow_peq_nn rfl ?_)
        | (refine ow_peq_np rfl ?_)
        | (refine ow_ieq_in rfl ?_)
        | (refine ow_ieq_nn rfl ?_)
        | (refine ow_ieq_ni rfl ?_)
        | (refine ow_mkf rfl rfl ?_)
        | (refine ow_box (by first | (simp only [cellsA]; rfl) | rfl) ?_)
        | (refine ow_len rfl ?_)
        | (refine ow_lss_t (by omega) ?_)
        | (refine ow_lss_f (by omega) ?_)
        | (refine ow_leq_t (by omega) ?_)
        | (refine ow_leq_f (by omega) ?_)
        | (refine ow_gtr_t (by omega) ?_)
        | (refine ow_gtr_f (by omega) ?_)
        | (refine ow_geq_t (by omega) ?_)
        | (refine ow_geq_f (by omega) ?_)
        | (refine ow_eql_t (by omega) ?_)
        | (refine ow_eql_f (by omega) ?_)
        | (refine ow_neq_t (by omega) ?_)
        | (refine ow_neq_f (by omega) ?_)
        | (refine ow_add_i rfl (by omega) (by omega) ?_)
        | (refine ow_sub_i rfl (by omega) (by omega) ?_)
        | (refine ow_conv_i (by omega) (by omega) ?_)
        | (refine ow_conv_u (by omega) (by omega) ?_)
        | (refine ow_iaA (by omega) (by omega) rfl ?_)
        | (refine ow_iaS (by omega) (by omega) rfl ?_)
        | (refine ow_ld (by repeat (first | exact upd_same _ _ _ | assumption | refine upd_get (by omega) ?_)) (by first | exact part_all rfl | rfl | (simp only [partA, if_true, List.drop_succ_cons, List.drop_zero, List.take_succ_cons, List.take_zero, List.length_cons, List.length_nil, Nat.reduceAdd, Nat.zero_add]; rfl)) ?_)
        | (refine ow_st (by repeat (first | exact upd_same _ _ _ | assumption | refine upd_get (by omega) ?_)) (by first | (simp only [cellsA]; rfl) | rfl) rfl (by first | (simp; done) | exact Nat.le_refl _) rfl (by first | exact splice_all rfl | (simp only [splice, List.take_succ_cons, List.take_zero, List.drop_succ_cons, List.drop_zero, List.length_cons, List.length_nil, List.cons_append, List.nil_append, Nat.reduceAdd, Nat.zero_add, Nat.add_zero]; rfl)) ?_)
        | (refine ow_build (by simp only [repl, List.append_nil, fillA, List.map, ev, cellsA, splice, List.take_succ_cons, List.take_zero, List.drop_succ_cons, List.drop_zero, List.length_cons, List.length_nil, List.cons_append, List.nil_append, Nat.reduceAdd, Nat.zero_add, Nat.add_zero, true_and, and_self, if_true, Nat.reduceLeDiff, Nat.le_refl]; rfl) ?_)
        | (refine ow_bsl (by simp only [repl, List.append_nil, fillA, List.map, ev, cellsA, splice, List.take_succ_cons, List.take_zero, List.drop_succ_cons, List.drop_zero, List.length_cons, List.length_nil, List.cons_append, List.nil_append, Nat.reduceAdd, Nat.zero_add, Nat.add_zero, true_and, and_self, if_true, Nat.reduceLeDiff, Nat.le_refl]; rfl) ?_)
        | (refine ldR_of (by repeat (first | exact upd_same _ _ _ | assumption | refine upd_get (by omega) ?_)) (by first | exact part_all rfl | rfl | (simp only [partA, if_true, List.drop_succ_cons, List.drop_zero, List.take_succ_cons, List.take_zero, List.length_cons, List.length_nil, Nat.reduceAdd, Nat.zero_add]; rfl)) ?_)
        | (refine dow_ld (by repeat (first | exact upd_same _ _ _ | assumption | refine upd_get (by omega) ?_)) (by first | exact part_all rfl | rfl | (simp only [partA, if_true, List.drop_succ_cons, List.drop_zero, List.take_succ_cons, List.take_zero, List.length_cons, List.length_nil, Nat.reduceAdd, Nat.zero_add]; rfl)) (by simp only [meets, and_true]; (try (repeat' apply And.intro)); all_goals (intro z; simp only [fp_d, fp_f, List.mem_cons, List.not_mem_nil, or_false, false_or, not_false_eq_true, true_and, and_true, Bool.false_eq_true, false_and, not_or]; omega)) ?_)
        | (refine dow_new (by simp only [meets, and_true]; (try (repeat' apply And.intro)); all_goals (intro z; simp only [fp_d, fp_f, List.mem_cons, List.not_mem_nil, or_false, false_or, not_false_eq_true, true_and, and_true, Bool.false_eq_true, false_and, not_or]; omega)) ?_)
        | (refine dow_box (by first | (simp only [cellsA]; rfl) | rfl) (by simp only [meets, and_true]; (try (repeat' apply And.intro)); all_goals (intro z; simp only [fp_d, fp_f, List.mem_cons, List.not_mem_nil, or_false, false_or, not_false_eq_true, true_and, and_true, Bool.false_eq_true, false_and, not_or]; omega)) ?_)
        | (refine dow_st (by repeat (first | exact upd_same _ _ _ | assumption | refine upd_get (by omega) ?_)) (by first | (simp only [cellsA]; rfl) | rfl) rfl (by first | (simp; done) | exact Nat.le_refl _) rfl (by first | exact splice_all rfl | (simp only [splice, List.take_succ_cons, List.take_zero, List.drop_succ_cons, List.drop_zero, List.length_cons, List.length_nil, List.cons_append, List.nil_append, Nat.reduceAdd, Nat.zero_add, Nat.add_zero]; rfl)) (by simp only [meets, and_true]; (try (repeat' apply And.intro)); all_goals (intro z; simp only [fp_d, fp_f, List.mem_cons, List.not_mem_nil, or_false, false_or, not_false_eq_true, true_and, and_true, Bool.false_eq_true, false_and, not_or]; omega)) ?_)
        | (refine dgw_run ?_)
        | (refine dgw_tf ?_)
        | (refine dgw_ft ?_)
        | (refine dgw_un ?_))
      exact ⟨by simp [h1, h2], rfl, rfl⟩
    · repeat (first
        | (refine cw_t ?_)
        | (refine cw_f ?_)
        | (refine gw_run ?_)
        | (refine gw_tf ?_)
        | (refine gw_ft ?_)
        | (refine gw_un ?_)
        | (refine ow_pick_t ?_)
        | (refine ow_pick_f ?_)
        | (refine ow_new ?_)
        | (refine ow_nck_p ?_)
        | (refine ow_nck_i ?_)
        | (refine ow_nck_f ?_)
        | (refine ow_mki ?_)
        | (refine ow_fa rfl ?_)
        | (refine ow_ext rfl ?_)
        | (refine ow_not rfl ?_)
        | (refine ow_peq_pn rfl ?_)
        | (refine ow_peq_nn rfl ?_)
        | (refine ow_peq_np rfl ?_)
        | (refine ow_ieq_in rfl ?_)
        | (refine ow_ieq_nn rfl ?_)
        | (refine ow_ieq_ni rfl ?_)
        | (refine ow_mkf rfl rfl ?_)
        | (refine ow_box (by first | (simp only [cellsA]; rfl) | rfl) ?_)
        | (refine ow_len rfl ?_)
        | (refine ow_lss_t (by omega) ?_)
        | (refine ow_lss_f (by omega) ?_)
        | (refine ow_leq_t (by omega) ?_)
        | (refine ow_leq_f (by omega) ?_)
        | (refine ow_gtr_t (by omega) ?_)
        | (refine ow_gtr_f (by omega) ?_)
        | (refine ow_geq_t (by omega) ?_)
        | (refine ow_geq_f (by omega) ?_)
        | (refine ow_eql_t (by omega) ?_)
        | (refine ow_eql_f (by omega) ?_)
        | (refine ow_neq_t (by omega) ?_)
        | (refine ow_neq_f (by omega) ?_)
        | (refine ow_add_i rfl (by omega) (by omega) ?_)
        | (refine ow_sub_i rfl (by omega) (by omega) ?_)
        | (refine ow_conv_i (by omega) (by omega) ?_)
        | (refine ow_conv_u (by omega) (by omega) ?_)
        | (refine ow_iaA (by omega) (by omega) rfl ?_)
        | (refine ow_iaS (by omega) (by omega) rfl ?_)
        | (refine ow_ld (by repeat (first | exact upd_same _ _ _ | assumption | refine upd_get (by omega) ?_)) (by first | exact part_all rfl | rfl | (simp only [partA, if_true, List.drop_succ_cons, List.drop_zero, List.take_succ_cons, List.take_zero, List.length_cons, List.length_nil, Nat.reduceAdd, Nat.zero_add]; rfl)) ?_)
        | (refine ow_st (by repeat (first | exact upd_same _ _ _ | assumption | refine upd_get (by omega) ?_)) (by first | (simp only [cellsA]; rfl) | rfl) rfl (by first | (simp; done) | exact Nat.le_refl _) rfl (by first | exact splice_all rfl | (simp only [splice, List.take_succ_cons, List.take_zero, List.drop_succ_cons, List.drop_zero, List.length_cons, List.length_nil, List.cons_append, List.nil_append, Nat.reduceAdd, Nat.zero_add, Nat.add_zero]; rfl)) ?_)
        | (refine ow_build (by simp only [repl, List.append_nil, fillA, List.map, ev, cellsA, splice, List.take_succ_cons, List.take_zero, List.drop_succ_cons, List.drop_zero, List.length_cons, List.length_nil, List.cons_append, List.nil_append, Nat.reduceAdd, Nat.zero_add, Nat.add_zero, true_and, and_self, if_true, Nat.reduceLeDiff, Nat.le_refl]; rfl) ?_)
        | (refine ow_bsl (by simp only [repl, List.append_nil, fillA, List.map, ev, cellsA, splice, List.take_succ_cons, List.take_zero, List.drop_succ_cons, List.drop_zero, List.length_cons, List.length_nil, List.cons_append, List.nil_append, Nat.reduceAdd, Nat.zero_add, Nat.add_zero, true_and, and_self, if_true, Nat.reduceLeDiff, Nat.le_refl]; rfl) ?_)
        | (refine ldR_of (by repeat (first | exact upd_same _ _ _ | assumption | refine upd_get (by omega) ?_)) (by first | exact part_all rfl | rfl | (simp only [partA, if_true, List.drop_succ_cons, List.drop_zero, List.take_succ_cons, List.take_zero, List.length_cons, List.length_nil, Nat.reduceAdd, Nat.zero_add]; rfl)) ?_)
        | (refine dow_ld (by repeat (first | exact upd_same _ _ _ | assumption | refine upd_get (by omega) ?_)) (by first | exact part_all rfl | rfl | (simp only [partA, if_true, List.drop_succ_cons, List.drop_zero, List.take_succ_cons, List.take_zero, List.length_cons, List.length_nil, Nat.reduceAdd, Nat.zero_add]; rfl)) (by simp only [meets, and_true]; (try (repeat' apply And.intro)); all_goals (intro z; simp only [fp_d, fp_f, List.mem_cons, List.not_mem_nil, or_false, false_or, not_false_eq_true, true_and, and_true, Bool.false_eq_true, false_and, not_or]; omega)) ?_)
        | (refine dow_new (by simp only [meets, and_true]; (try (repeat' apply And.intro)); all_goals (intro z; simp only [fp_d, fp_f, List.mem_cons, List.not_mem_nil, or_false, false_or, not_false_eq_true, true_and, and_true, Bool.false_eq_true, false_and, not_or]; omega)) ?_)
        | (refine dow_box (by first | (simp only [cellsA]; rfl) | rfl) (by simp only [meets, and_true]; (try (repeat' apply And.intro)); all_goals (intro z; simp only [fp_d, fp_f, List.mem_cons, List.not_mem_nil, or_false, false_or, not_false_eq_true, true_and, and_true, Bool.false_eq_true, false_and, not_or]; omega)) ?_)
        | (refine dow_st (by repeat (first | exact upd_same _ _ _ | assumption | refine upd_get (by omega) ?_)) (by first | (simp only [cellsA]; rfl) | rfl) rfl (by first | (simp; done) | exact Nat.le_refl _) rfl (by first | exact splice_all rfl | (simp only [splice, List.take_succ_cons, List.take_zero, List.drop_succ_cons, List.drop_zero, List.length_cons, List.length_nil, List.cons_append, List.nil_append, Nat.reduceAdd, Nat.zero_add, Nat.add_zero]; rfl)) (by simp only [meets, and_true]; (try (repeat' apply And.intro)); all_goals (intro z; simp only [fp_d, fp_f, List.mem_cons, List.not_mem_nil, or_false, false_or, not_false_eq_true, true_and, and_true, Bool.false_eq_true, false_and, not_or]; omega)) ?_)
        | (refine dgw_run ?_)
        | (refine dgw_tf ?_)
        | (refine dgw_ft ?_)
        | (refine dgw_un ?_))
      exact ⟨by simp [h2], rfl, rfl⟩
  · repeat (first
      | (refine cw_t ?_)
      | (refine cw_f ?_)
      | (refine gw_run ?_)
      | (refine gw_tf ?_)
      | (refine gw_ft ?_)
      | (refine gw_un ?_)
      | (refine ow_pick_t ?_)
      | (refine ow_pick_f ?_)
      | (refine ow_new ?_)
      | (refine ow_nck_p ?_)
      | (refine ow_nck_i ?_)
      | (refine ow_nck_f ?_)
      | (refine ow_mki ?_)
      | (refine ow_fa rfl ?_)
      | (refine ow_ext rfl ?_)
      | (refine ow_not rfl ?_)
      | (refine ow_peq_pn rfl ?_)
      | (refine ow_peq_nn rfl ?_)
      | (refine ow_peq_np rfl ?_)
      | (refine ow_ieq_in rfl ?_)
      | (refine ow_ieq_nn rfl ?_)
      | (refine ow_ieq_ni rfl ?_)
      | (refine ow_mkf rfl rfl ?_)
      | (refine ow_box (by first | (simp only [cellsA]; rfl) | rfl) ?_)
      | (refine ow_len rfl ?_)
      | (refine ow_lss_t (by omega) ?_)
      | (refine ow_lss_f (by omega) ?_)
      | (refine ow_leq_t (by omega) ?_)
      | (refine ow_leq_f (by omega) ?_)
      | (refine ow_gtr_t (by omega) ?_)
      | (refine ow_gtr_f (by omega) ?_)
      | (refine ow_geq_t (by omega) ?_)
      | (refine ow_geq_f (by omega) ?_)
      | (refine ow_eql_t (by omega) ?_)
      | (refine ow_eql_f (by omega) ?_)
      | (refine ow_neq_t (by omega) ?_)
      | (refine ow_neq_f (by omega) ?_)
      | (refine ow_add_i rfl (by omega) (by omega) ?_)
      | (refine ow_sub_i rfl (by omega) (by omega) ?_)
      | (refine ow_conv_i (by omega) (by omega) ?_)
      | (refine ow_conv_u (by omega) (by omega) ?_)
      | (refine ow_iaA (by omega) (by omega) rfl ?_)
      | (refine ow_iaS (by omega) (by omega) rfl ?_)
      | (refine ow_ld (by repeat (first | exact upd_same _ _ _ | assumption | refine upd_get (by omega) ?_)) (by first | exact part_all rfl | rfl | (simp only [partA, if_true, List.drop_succ_cons, List.drop_zero, List.take_succ_cons, List.take_zero, List.length_cons, List.length_nil, Nat.reduceAdd, Nat.zero_add]; rfl)) ?_)
      | (refine ow_st (by repeat (first | exact upd_same _ _ _ | assumption | refine upd_get (by omega) ?_)) (by first | (simp only [cellsA]; rfl) | rfl) rfl (by first | (simp; done) | exact Nat.le_refl _) rfl (by first | exact splice_all rfl | (simp only [splice, List.take_succ_cons, List.take_zero, List.drop_succ_cons, List.drop_zero, List.length_cons, List.length_nil, List.cons_append, List.nil_append, Nat.reduceAdd, Nat.zero_add, Nat.add_zero]; rfl)) ?_)
      | (refine ow_build (by simp only [repl, List.append_nil, fillA, List.map, ev, cellsA, splice, List.take_succ_cons, List.take_zero, List.drop_succ_cons, List.drop_zero, List.length_cons, List.length_nil, List.cons_append, List.nil_append, Nat.reduceAdd, Nat.zero_add, Nat.add_zero, true_and, and_self, if_true, Nat.reduceLeDiff, Nat.le_refl]; rfl) ?_)
      | (refine ow_bsl (by simp only [repl, List.append_nil, fillA, List.map, ev, cellsA, splice, List.take_succ_cons, List.take_zero, List.drop_succ_cons, List.drop_zero, List.length_cons, List.length_nil, List.cons_append, List.nil_append, Nat.reduceAdd, Nat.zero_add, Nat.add_zero, true_and, and_self, if_true, Nat.reduceLeDiff, Nat.le_refl]; rfl) ?_)
      | (refine ldR_of (by repeat (first | exact upd_same _ _ _ | assumption | refine upd_get (by omega) ?_)) (by first | exact part_all rfl | rfl | (simp only [partA, if_true, List.drop_succ_cons, List.drop_zero, List.take_succ_cons, List.take_zero, List.length_cons, List.length_nil, Nat.reduceAdd, Nat.zero_add]; rfl)) ?_)
      | (refine dow_ld (by repeat (first | exact upd_same _ _ _ | assumption | refine upd_get (by omega) ?_)) (by first | exact part_all rfl | rfl | (simp only [partA, if_true, List.drop_succ_cons, List.drop_zero, List.take_succ_cons, List.take_zero, List.length_cons, List.length_nil, Nat.reduceAdd, Nat.zero_add]; rfl)) (by simp only [meets, and_true]; (try (repeat' apply And.intro)); all_goals (intro z; simp only [fp_d, fp_f, List.mem_cons, List.not_mem_nil, or_false, false_or, not_false_eq_true, true_and, and_true, Bool.false_eq_true, false_and, not_or]; omega)) ?_)
      | (refine dow_new (by simp only [meets, and_true]; (try (repeat' apply And.intro)); all_goals (intro z; simp only [fp_d, fp_f, List.mem_cons, List.not_mem_nil, or_false, false_or, not_false_eq_true, true_and, and_true, Bool.false_eq_true, false_and, not_or]; omega)) ?_)
      | (refine dow_box (by first | (simp only [cellsA]; rfl) | rfl) (by simp only [meets, and_true]; (try (repeat' apply And.intro)); all_goals (intro z; simp only [fp_d, fp_f, List.mem_cons, List.not_mem_nil, or_false, false_or, not_false_eq_true, true_and, and_true, Bool.false_eq_true, false_and, not_or]; omega)) ?_)
      | (refine dow_st (by repeat (first | exact upd_same _ _ _ | assumption | refine upd_get (by omega) ?_)) (by first | (simp only [cellsA]; rfl) | rfl) rfl (by first | (simp; done) | exact Nat.le_refl _) rfl (by first | exact splice_all rfl | (simp only [splice, List.take_succ_cons, List.take_zero, List.drop_succ_cons, List.drop_zero, List.length_cons, List.length_nil, List.cons_append, List.nil_append, Nat.reduceAdd, Nat.zero_add, Nat.add_zero]; rfl)) (by simp only [meets, and_true]; (try (repeat' apply And.intro)); all_goals (intro z; simp only [fp_d, fp_f, List.mem_cons, List.not_mem_nil, or_false, false_or, not_false_eq_true, true_and, and_true, Bool.false_eq_true, false_and, not_or]; omega)) ?_)
      | (refine dgw_run ?_)
      | (refine dgw_tf ?_)
      | (refine dgw_ft ?_)
      | (refine dgw_un ?_))
    exact ⟨by simp [h1], rfl, rfl⟩

set_option maxRecDepth 20000 in
/-- A core begins an epoch. -/
theorem begin_ev (g : Good n h) (T : EpAt h t fb hb C m F H) (hm : m + 1 < 1000000) {c : Nat} (hc : c < C) (hF : F m = c) :
    callW Tryz.prog 29 [.ptr t 0, .int .i64 (c : Int)] h n fun v h' n' => ∃ fb', v = .tup [.int .u64 ((m + 1 : Nat) : Int), .bool true] ∧ EpAt h' t fb' hb C (m + 1) F H ∧ Good n' h' ∧ n ≤ n' ∧
      ∀ x, x < n → x ≠ t → x ≠ hb → (m ≠ 0 → x ≠ fb) → h' x = h x := by
  have ht := T.ct
  have l1 := g.lt ht
  have l2 := g.lt T.cb
  have l8 := T.lim2
  have n1 := T.ne1
  have hrows : (List.range m).map (fun i => coreRow (F i)) ≠ [] → m ≠ 0 := fun hne h0 => hne (by subst h0; rfl)
  have hlen : ((List.range m).map fun i => coreRow (F i)).length = m := by simp
  have hrow : ∀ r ∈ (List.range m).map (fun i => coreRow (F i)), r.length = 1 := by
    intro r hr
    simp only [List.mem_map] at hr
    obtain ⟨i, _, rfl⟩ := hr
    rfl
  have hsl : slV fb m = slV fb ((List.range m).map fun i => coreRow (F i)).length := by rw [hlen]
  refine W29_ok ?_
  unfold W29
  have hin : decide (0 ≤ (c : Int) ∧ (c : Int) < (C : Int)) = true := decide_eq_true ⟨by omega, by omega⟩
  repeat (first
    | (refine cal (isCore_ev T _) ?_)
    | (rw [hin])
    | (rw [hsl]; refine ow_app1 (rows := (List.range m).map fun i => coreRow (F i)) (row := coreRow c) (b := fb) (by omega) (fun hne => by { refine upd_get ?_ (T.cf (hrows hne)); have := g.lt (T.cf (hrows hne)); omega }) hrow (by repeat (first | exact upd_same _ _ _ | assumption | refine upd_get (by omega) ?_)) rfl rfl (by rw [hlen]; omega) (by rw [hlen]; omega) ?_)
    | (refine cw_t ?_)
    | (refine cw_f ?_)
    | (refine gw_run ?_)
    | (refine gw_tf ?_)
    | (refine gw_ft ?_)
    | (refine gw_un ?_)
    | (refine ow_pick_t ?_)
    | (refine ow_pick_f ?_)
    | (refine ow_new ?_)
    | (refine ow_nck_p ?_)
    | (refine ow_nck_i ?_)
    | (refine ow_nck_f ?_)
    | (refine ow_mki ?_)
    | (refine ow_fa rfl ?_)
    | (refine ow_ext rfl ?_)
    | (refine ow_not rfl ?_)
    | (refine ow_peq_pn rfl ?_)
    | (refine ow_peq_nn rfl ?_)
    | (refine ow_peq_np rfl ?_)
    | (refine ow_ieq_in rfl ?_)
    | (refine ow_ieq_nn rfl ?_)
    | (refine ow_ieq_ni rfl ?_)
    | (refine ow_mkf rfl rfl ?_)
    | (refine ow_box (by first | (simp only [cellsA]; rfl) | rfl) ?_)
    | (refine ow_len rfl ?_)
    | (refine ow_lss_t (by omega) ?_)
    | (refine ow_lss_f (by omega) ?_)
    | (refine ow_leq_t (by omega) ?_)
    | (refine ow_leq_f (by omega) ?_)
    | (refine ow_gtr_t (by omega) ?_)
    | (refine ow_gtr_f (by omega) ?_)
    | (refine ow_geq_t (by omega) ?_)
    | (refine ow_geq_f (by omega) ?_)
    | (refine ow_eql_t (by omega) ?_)
    | (refine ow_eql_f (by omega) ?_)
    | (refine ow_neq_t (by omega) ?_)
    | (refine ow_neq_f (by omega) ?_)
    | (refine ow_add_i rfl (by omega) (by omega) ?_)
    | (refine ow_sub_i rfl (by omega) (by omega) ?_)
    | (refine ow_conv_i (by omega) (by omega) ?_)
    | (refine ow_conv_u (by omega) (by omega) ?_)
    | (refine ow_iaA (by omega) (by omega) rfl ?_)
    | (refine ow_iaS (by omega) (by omega) rfl ?_)
    | (refine ow_ld (by repeat (first | exact upd_same _ _ _ | assumption | refine upd_get (by omega) ?_)) (by first | exact part_all rfl | rfl | (simp only [partA, if_true, List.drop_succ_cons, List.drop_zero, List.take_succ_cons, List.take_zero, List.length_cons, List.length_nil, Nat.reduceAdd, Nat.zero_add]; rfl)) ?_)
    | (refine ow_st (by repeat (first | exact upd_same _ _ _ | assumption | refine upd_get (by omega) ?_)) (by first | (simp only [cellsA]; rfl) | rfl) rfl (by first | (simp; done) | exact Nat.le_refl _) rfl (by first | exact splice_all rfl | (simp only [splice, List.take_succ_cons, List.take_zero, List.drop_succ_cons, List.drop_zero, List.length_cons, List.length_nil, List.cons_append, List.nil_append, Nat.reduceAdd, Nat.zero_add, Nat.add_zero]; rfl)) ?_)
    | (refine ow_build (by simp only [repl, List.append_nil, fillA, List.map, ev, cellsA, splice, List.take_succ_cons, List.take_zero, List.drop_succ_cons, List.drop_zero, List.length_cons, List.length_nil, List.cons_append, List.nil_append, Nat.reduceAdd, Nat.zero_add, Nat.add_zero, true_and, and_self, if_true, Nat.reduceLeDiff, Nat.le_refl]; rfl) ?_)
    | (refine ow_bsl (by simp only [repl, List.append_nil, fillA, List.map, ev, cellsA, splice, List.take_succ_cons, List.take_zero, List.drop_succ_cons, List.drop_zero, List.length_cons, List.length_nil, List.cons_append, List.nil_append, Nat.reduceAdd, Nat.zero_add, Nat.add_zero, true_and, and_self, if_true, Nat.reduceLeDiff, Nat.le_refl]; rfl) ?_)
    | (refine ldR_of (by repeat (first | exact upd_same _ _ _ | assumption | refine upd_get (by omega) ?_)) (by first | exact part_all rfl | rfl | (simp only [partA, if_true, List.drop_succ_cons, List.drop_zero, List.take_succ_cons, List.take_zero, List.length_cons, List.length_nil, Nat.reduceAdd, Nat.zero_add]; rfl)) ?_)
    | (refine dow_ld (by repeat (first | exact upd_same _ _ _ | assumption | refine upd_get (by omega) ?_)) (by first | exact part_all rfl | rfl | (simp only [partA, if_true, List.drop_succ_cons, List.drop_zero, List.take_succ_cons, List.take_zero, List.length_cons, List.length_nil, Nat.reduceAdd, Nat.zero_add]; rfl)) (by simp only [meets, and_true]; (try (repeat' apply And.intro)); all_goals (intro z; simp only [fp_d, fp_f, List.mem_cons, List.not_mem_nil, or_false, false_or, not_false_eq_true, true_and, and_true, Bool.false_eq_true, false_and, not_or]; omega)) ?_)
    | (refine dow_new (by simp only [meets, and_true]; (try (repeat' apply And.intro)); all_goals (intro z; simp only [fp_d, fp_f, List.mem_cons, List.not_mem_nil, or_false, false_or, not_false_eq_true, true_and, and_true, Bool.false_eq_true, false_and, not_or]; omega)) ?_)
    | (refine dow_box (by first | (simp only [cellsA]; rfl) | rfl) (by simp only [meets, and_true]; (try (repeat' apply And.intro)); all_goals (intro z; simp only [fp_d, fp_f, List.mem_cons, List.not_mem_nil, or_false, false_or, not_false_eq_true, true_and, and_true, Bool.false_eq_true, false_and, not_or]; omega)) ?_)
    | (refine dow_st (by repeat (first | exact upd_same _ _ _ | assumption | refine upd_get (by omega) ?_)) (by first | (simp only [cellsA]; rfl) | rfl) rfl (by first | (simp; done) | exact Nat.le_refl _) rfl (by first | exact splice_all rfl | (simp only [splice, List.take_succ_cons, List.take_zero, List.drop_succ_cons, List.drop_zero, List.length_cons, List.length_nil, List.cons_append, List.nil_append, Nat.reduceAdd, Nat.zero_add, Nat.add_zero]; rfl)) (by simp only [meets, and_true]; (try (repeat' apply And.intro)); all_goals (intro z; simp only [fp_d, fp_f, List.mem_cons, List.not_mem_nil, or_false, false_or, not_false_eq_true, true_and, and_true, Bool.false_eq_true, false_and, not_or]; omega)) ?_)
    | (refine dgw_run ?_)
    | (refine dgw_tf ?_)
    | (refine dgw_ft ?_)
    | (refine dgw_un ?_))
  rw [hlen]
  have hs1 : slV (n + 1) (m + 1) = .sl (n + 1) 0 0 (m + 1) none := by unfold slV; rw [if_neg (by omega)]
  have hfn : m ≠ 0 → fb < n := fun h0 => g.lt (T.cf h0)
  have gg : Good (n + 1) (upd h n (some (.cells 1 (coreRow c)))) := g.new (by simp [belowB, coreRow, belowL, below])
  have hfx : (List.range m).map (fun i => coreRow (F i)) ≠ [] → upd h n (some (.cells 1 (coreRow c))) fb = some (.cells 1 ((List.range m).map fun i => coreRow (F i)).flatten) := fun hne => upd_get (by have := hfn (hrows hne); omega) (T.cf (hrows hne))
  have g2 := appH_good (x0 := n) gg hfx (upd_same _ _ _)
  have old : ∀ x, x < n → (m ≠ 0 → x ≠ fb) → appH (upd h n (some (.cells 1 (coreRow c)))) (n + 1) fb 1 ((List.range m).map fun i => coreRow (F i)) (coreRow c) x = h x := by
    intro x hx hf
    rw [appH_old (by omega) (fun hne => hf (hrows hne)), upd_ne _ _ (by omega)]
  have hnew : appH (upd h n (some (.cells 1 (coreRow c)))) (n + 1) fb 1 ((List.range m).map fun i => coreRow (F i)) (coreRow c) (n + 1) = some (.cells 1 (enc coreRow (m + 1) F)) := by
    rw [appH_new, enc_succ, List.flatten_append, hF]
    congr 2
  have ht2 := (old t l1 (fun h0 => fun e => (T.ne2 h0).2 e.symm)).trans ht
  have hb2 := (old hb l2 (fun h0 => fun e => (T.ne2 h0).1 e.symm)).trans T.cb
  show opW _ _ (appH (upd h n (some (.cells 1 (coreRow c)))) (n + 1) fb 1 ((List.range m).map fun i => coreRow (F i)) (coreRow c)) _ _
  generalize appH (upd h n (some (.cells 1 (coreRow c)))) (n + 1) fb 1 ((List.range m).map fun i => coreRow (F i)) (coreRow c) = h2 at *
  rw [hs1]
  refine ow_st ht2 rfl rfl (by simp) rfl rfl ?_
  have T' : EpAt (upd h2 t (some (.cells 0 [.sl (n + 1) 0 0 (m + 1) none, .sl hb 0 0 C (some C)]))) t (n + 1) hb C (m + 1) F H := by
    refine ⟨by rw [upd_same, hs1], fun _ => ?_, ?_, n1, fun _ => ⟨by omega, by omega⟩, hm, l8⟩
    · rw [upd_ne _ _ (by omega)]; exact hnew
    · rw [upd_ne _ _ n1]; exact hb2
  refine cal (now_ev T') ?_
  refine ⟨n + 1, rfl, T', ?_, by omega, fun x hx h1 _ h3 => ?_⟩
  · refine g2.upd (by omega) ?_
    show belowL (n + 1 + 1) [.sl (n + 1) 0 0 (m + 1) none, .sl hb 0 0 C (some C)] = true
    simp [belowL, below]
    omega
  · rw [upd_ne _ _ h1]; exact old x hx h3

theorem heard_splice {C : Nat} (H : Nat → Nat) {c : Nat} (hc : c < C) (u : Nat) : splice (enc heardRow C H) c [.int .u64 (u : Int)] = enc heardRow C (setF H c u) := by
  have := splice_row heardRow_len (n := C) (i := c) H hc u
  rwa [Nat.mul_one] at this
theorem heard_at {C : Nat} (H : Nat → Nat) {c : Nat} (hc : c < C) : partA false (enc heardRow C H) c 1 = some (.int .u64 (H c : Int)) := by
  have := partA_field heardRow_len (n := C) (i := c) (f := 0) (sz := 1) H hc (by omega)
  rw [Nat.mul_one, Nat.add_zero] at this
  rw [this]; rfl
theorem core_at {m : Nat} (F : Nat → Nat) {k : Nat} (hk : k < m) : partA false (enc coreRow m F) k 1 = some (.int .i64 (F k : Int)) := by
  have := partA_field coreRow_len (n := m) (i := k) (f := 0) (sz := 1) F hk (by omega)
  rw [Nat.mul_one, Nat.add_zero] at this
  rw [this]; rfl

set_option maxRecDepth 20000 in
/-- A core hears of an epoch. -/
theorem ack_ev (g : Good n h) (T : EpAt h t fb hb C m F H) {c e : Nat} (hc : c < C) (h1 : 1 ≤ e) (he : e ≤ m) :
    FEv Tryz.prog 30 [.ptr t 0, .int .i64 (c : Int), .int .u64 (e : Int)] h n (.bool true) (upd h hb (some (.cells 1 (enc heardRow C (setF H c (max (H c) e)))))) n := by
  have ht := T.ct
  have hb' := T.cb
  have l8 := T.lim2
  have n1 := T.ne1
  have := T.lim
  have hin : decide (0 ≤ (c : Int) ∧ (c : Int) < (C : Int)) = true := decide_eq_true ⟨by omega, by omega⟩
  have hmx : (if (e : Int) > (H c : Int) then (e : Int) else (H c : Int)) = ((max (H c) e : Nat) : Int) := by split <;> omega
  refine fev_exact (W30_ok ?_)
  unfold W30
  repeat (first
    | (refine cal (isCore_ev T _) ?_)
    | (rw [hin])
    | (refine cal (now_ev T) ?_)
    | (refine dow_ld (by repeat (first | exact upd_same _ _ _ | assumption | refine upd_get (by omega) ?_)) (heard_at (c := c) H hc) (by simp only [meets, and_true]; (try (repeat' apply And.intro)); all_goals (intro z; simp only [fp_d, fp_f, List.mem_cons, List.not_mem_nil, or_false, false_or, not_false_eq_true, true_and, and_true, Bool.false_eq_true, false_and, not_or]; omega)) ?_)
    | (refine ow_max ?_)
    | (refine ow_iaS (z := c) (by omega) (by omega) (by omega) ?_)
    | (refine cw_t ?_)
    | (refine cw_f ?_)
    | (refine gw_run ?_)
    | (refine gw_tf ?_)
    | (refine gw_ft ?_)
    | (refine gw_un ?_)
    | (refine ow_pick_t ?_)
    | (refine ow_pick_f ?_)
    | (refine ow_new ?_)
    | (refine ow_nck_p ?_)
    | (refine ow_nck_i ?_)
    | (refine ow_nck_f ?_)
    | (refine ow_mki ?_)
    | (refine ow_fa rfl ?_)
    | (refine ow_ext rfl ?_)
    | (refine ow_not rfl ?_)
    | (refine ow_peq_pn rfl ?_)
    | (refine ow_peq_nn rfl ?_)
    | (refine ow_peq_np rfl ?_)
    | (refine ow_ieq_in rfl ?_)
    | (refine ow_ieq_nn rfl ?_)
    | (refine ow_ieq_ni rfl ?_)
    | (refine ow_mkf rfl rfl ?_)
    | (refine ow_box (by first | (simp only [cellsA]; rfl) | rfl) ?_)
    | (refine ow_len rfl ?_)
    | (refine ow_lss_t (by omega) ?_)
    | (refine ow_lss_f (by omega) ?_)
    | (refine ow_leq_t (by omega) ?_)
    | (refine ow_leq_f (by omega) ?_)
    | (refine ow_gtr_t (by omega) ?_)
    | (refine ow_gtr_f (by omega) ?_)
    | (refine ow_geq_t (by omega) ?_)
    | (refine ow_geq_f (by omega) ?_)
    | (refine ow_eql_t (by omega) ?_)
    | (refine ow_eql_f (by omega) ?_)
    | (refine ow_neq_t (by omega) ?_)
    | (refine ow_neq_f (by omega) ?_)
    | (refine ow_add_i rfl (by omega) (by omega) ?_)
    | (refine ow_sub_i rfl (by omega) (by omega) ?_)
    | (refine ow_conv_i (by omega) (by omega) ?_)
    | (refine ow_conv_u (by omega) (by omega) ?_)
    | (refine ow_iaA (by omega) (by omega) rfl ?_)
    | (refine ow_iaS (by omega) (by omega) rfl ?_)
    | (refine ow_ld (by repeat (first | exact upd_same _ _ _ | assumption | refine upd_get (by omega) ?_)) (by first | exact part_all rfl | rfl | (simp only [partA, if_true, List.drop_succ_cons, List.drop_zero, List.take_succ_cons, List.take_zero, List.length_cons, List.length_nil, Nat.reduceAdd, Nat.zero_add]; rfl)) ?_)
    | (refine ow_st (by repeat (first | exact upd_same _ _ _ | assumption | refine upd_get (by omega) ?_)) (by first | (simp only [cellsA]; rfl) | rfl) rfl (by first | (simp; done) | exact Nat.le_refl _) rfl (by first | exact splice_all rfl | (simp only [splice, List.take_succ_cons, List.take_zero, List.drop_succ_cons, List.drop_zero, List.length_cons, List.length_nil, List.cons_append, List.nil_append, Nat.reduceAdd, Nat.zero_add, Nat.add_zero]; rfl)) ?_)
    | (refine ow_build (by simp only [repl, List.append_nil, fillA, List.map, ev, cellsA, splice, List.take_succ_cons, List.take_zero, List.drop_succ_cons, List.drop_zero, List.length_cons, List.length_nil, List.cons_append, List.nil_append, Nat.reduceAdd, Nat.zero_add, Nat.add_zero, true_and, and_self, if_true, Nat.reduceLeDiff, Nat.le_refl]; rfl) ?_)
    | (refine ow_bsl (by simp only [repl, List.append_nil, fillA, List.map, ev, cellsA, splice, List.take_succ_cons, List.take_zero, List.drop_succ_cons, List.drop_zero, List.length_cons, List.length_nil, List.cons_append, List.nil_append, Nat.reduceAdd, Nat.zero_add, Nat.add_zero, true_and, and_self, if_true, Nat.reduceLeDiff, Nat.le_refl]; rfl) ?_)
    | (refine ldR_of (by repeat (first | exact upd_same _ _ _ | assumption | refine upd_get (by omega) ?_)) (by first | exact part_all rfl | rfl | (simp only [partA, if_true, List.drop_succ_cons, List.drop_zero, List.take_succ_cons, List.take_zero, List.length_cons, List.length_nil, Nat.reduceAdd, Nat.zero_add]; rfl)) ?_)
    | (refine dow_ld (by repeat (first | exact upd_same _ _ _ | assumption | refine upd_get (by omega) ?_)) (by first | exact part_all rfl | rfl | (simp only [partA, if_true, List.drop_succ_cons, List.drop_zero, List.take_succ_cons, List.take_zero, List.length_cons, List.length_nil, Nat.reduceAdd, Nat.zero_add]; rfl)) (by simp only [meets, and_true]; (try (repeat' apply And.intro)); all_goals (intro z; simp only [fp_d, fp_f, List.mem_cons, List.not_mem_nil, or_false, false_or, not_false_eq_true, true_and, and_true, Bool.false_eq_true, false_and, not_or]; omega)) ?_)
    | (refine dow_new (by simp only [meets, and_true]; (try (repeat' apply And.intro)); all_goals (intro z; simp only [fp_d, fp_f, List.mem_cons, List.not_mem_nil, or_false, false_or, not_false_eq_true, true_and, and_true, Bool.false_eq_true, false_and, not_or]; omega)) ?_)
    | (refine dow_box (by first | (simp only [cellsA]; rfl) | rfl) (by simp only [meets, and_true]; (try (repeat' apply And.intro)); all_goals (intro z; simp only [fp_d, fp_f, List.mem_cons, List.not_mem_nil, or_false, false_or, not_false_eq_true, true_and, and_true, Bool.false_eq_true, false_and, not_or]; omega)) ?_)
    | (refine dow_st (by repeat (first | exact upd_same _ _ _ | assumption | refine upd_get (by omega) ?_)) (by first | (simp only [cellsA]; rfl) | rfl) rfl (by first | (simp; done) | exact Nat.le_refl _) rfl (by first | exact splice_all rfl | (simp only [splice, List.take_succ_cons, List.take_zero, List.drop_succ_cons, List.drop_zero, List.length_cons, List.length_nil, List.cons_append, List.nil_append, Nat.reduceAdd, Nat.zero_add, Nat.add_zero]; rfl)) (by simp only [meets, and_true]; (try (repeat' apply And.intro)); all_goals (intro z; simp only [fp_d, fp_f, List.mem_cons, List.not_mem_nil, or_false, false_or, not_false_eq_true, true_and, and_true, Bool.false_eq_true, false_and, not_or]; omega)) ?_)
    | (refine dgw_run ?_)
    | (refine dgw_tf ?_)
    | (refine dgw_ft ?_)
    | (refine dgw_un ?_))
  rw [hmx]
  refine dow_st (off := c) hb' rfl rfl (by rw [enc_length heardRow_len]; omega) rfl (heard_splice H hc _) trivial ?_
  exact ⟨rfl, rfl, rfl⟩
/-- Those of i cores that did not hear of epoch k, which f began. -/
def waitN (H : Nat → Nat) (k f i : Nat) : List Nat := (List.range i).filter fun c => decide (H c < k) && decide (f ≠ c)
def waitR (H : Nat → Nat) (k f i : Nat) : List (List AV) := (waitN H k f i).map coreRow
theorem waitR_succ (H : Nat → Nat) (k f i : Nat) : waitR H k f (i + 1) = waitR H k f i ++ (if H i < k ∧ f ≠ i then [coreRow i] else []) := by
  unfold waitR waitN
  rw [List.range_succ, List.filter_append, List.map_append]
  congr 1
  by_cases h1 : H i < k <;> by_cases h2 : f = i <;> simp [h1, h2]
theorem waitR_len (H : Nat → Nat) (k f i : Nat) : (waitR H k f i).length ≤ i := by
  unfold waitR waitN
  rw [List.length_map]
  exact Nat.le_trans (List.length_filter_le _ _) (by simp)
theorem waitR_row (H : Nat → Nat) (k f i : Nat) : ∀ r ∈ waitR H k f i, r.length = 1 := by
  intro r hr
  simp only [waitR, List.mem_map] at hr
  obtain ⟨q, _, rfl⟩ := hr
  rfl

set_option maxRecDepth 20000 in
theorem waits_ev (g : Good n h) (T : EpAt h t fb hb C m F H) {k : Nat} (h1 : 1 ≤ k) (hk : k ≤ m) :
    callW Tryz.prog 31 [.ptr t 0, .int .u64 (k : Int)] h n fun v h' n' => ∃ b, v = slV b (waitR H k (F (k - 1)) C).length ∧ Grown n h n' h' b 1 (waitR H k (F (k - 1)) C) := by
  have ht := T.ct
  have l8 := T.lim2
  have := T.lim
  have hsm : slV fb m = .sl fb 0 0 m none := by unfold slV; rw [if_neg (by omega)]
  refine W31_ok ?_
  unfold W31
  repeat (first
    | (refine cal (now_ev T) ?_)
    | (refine cw_t ?_)
    | (refine cw_f ?_)
    | (refine gw_run ?_)
    | (refine gw_tf ?_)
    | (refine gw_ft ?_)
    | (refine gw_un ?_)
    | (refine ow_pick_t ?_)
    | (refine ow_pick_f ?_)
    | (refine ow_new ?_)
    | (refine ow_nck_p ?_)
    | (refine ow_nck_i ?_)
    | (refine ow_nck_f ?_)
    | (refine ow_mki ?_)
    | (refine ow_fa rfl ?_)
    | (refine ow_ext rfl ?_)
    | (refine ow_not rfl ?_)
    | (refine ow_peq_pn rfl ?_)
    | (refine ow_peq_nn rfl ?_)
    | (refine ow_peq_np rfl ?_)
    | (refine ow_ieq_in rfl ?_)
    | (refine ow_ieq_nn rfl ?_)
    | (refine ow_ieq_ni rfl ?_)
    | (refine ow_mkf rfl rfl ?_)
    | (refine ow_box (by first | (simp only [cellsA]; rfl) | rfl) ?_)
    | (refine ow_len rfl ?_)
    | (refine ow_lss_t (by omega) ?_)
    | (refine ow_lss_f (by omega) ?_)
    | (refine ow_leq_t (by omega) ?_)
    | (refine ow_leq_f (by omega) ?_)
    | (refine ow_gtr_t (by omega) ?_)
    | (refine ow_gtr_f (by omega) ?_)
    | (refine ow_geq_t (by omega) ?_)
    | (refine ow_geq_f (by omega) ?_)
    | (refine ow_eql_t (by omega) ?_)
    | (refine ow_eql_f (by omega) ?_)
    | (refine ow_neq_t (by omega) ?_)
    | (refine ow_neq_f (by omega) ?_)
    | (refine ow_add_i rfl (by omega) (by omega) ?_)
    | (refine ow_sub_i rfl (by omega) (by omega) ?_)
    | (refine ow_conv_i (by omega) (by omega) ?_)
    | (refine ow_conv_u (by omega) (by omega) ?_)
    | (refine ow_iaA (by omega) (by omega) rfl ?_)
    | (refine ow_iaS (by omega) (by omega) rfl ?_)
    | (refine ow_ld (by repeat (first | exact upd_same _ _ _ | assumption | refine upd_get (by omega) ?_)) (by first | exact part_all rfl | rfl | (simp only [partA, if_true, List.drop_succ_cons, List.drop_zero, List.take_succ_cons, List.take_zero, List.length_cons, List.length_nil, Nat.reduceAdd, Nat.zero_add]; rfl)) ?_)
    | (refine ow_st (by repeat (first | exact upd_same _ _ _ | assumption | refine upd_get (by omega) ?_)) (by first | (simp only [cellsA]; rfl) | rfl) rfl (by first | (simp; done) | exact Nat.le_refl _) rfl (by first | exact splice_all rfl | (simp only [splice, List.take_succ_cons, List.take_zero, List.drop_succ_cons, List.drop_zero, List.length_cons, List.length_nil, List.cons_append, List.nil_append, Nat.reduceAdd, Nat.zero_add, Nat.add_zero]; rfl)) ?_)
    | (refine ow_build (by simp only [repl, List.append_nil, fillA, List.map, ev, cellsA, splice, List.take_succ_cons, List.take_zero, List.drop_succ_cons, List.drop_zero, List.length_cons, List.length_nil, List.cons_append, List.nil_append, Nat.reduceAdd, Nat.zero_add, Nat.add_zero, true_and, and_self, if_true, Nat.reduceLeDiff, Nat.le_refl]; rfl) ?_)
    | (refine ow_bsl (by simp only [repl, List.append_nil, fillA, List.map, ev, cellsA, splice, List.take_succ_cons, List.take_zero, List.drop_succ_cons, List.drop_zero, List.length_cons, List.length_nil, List.cons_append, List.nil_append, Nat.reduceAdd, Nat.zero_add, Nat.add_zero, true_and, and_self, if_true, Nat.reduceLeDiff, Nat.le_refl]; rfl) ?_)
    | (refine ldR_of (by repeat (first | exact upd_same _ _ _ | assumption | refine upd_get (by omega) ?_)) (by first | exact part_all rfl | rfl | (simp only [partA, if_true, List.drop_succ_cons, List.drop_zero, List.take_succ_cons, List.take_zero, List.length_cons, List.length_nil, Nat.reduceAdd, Nat.zero_add]; rfl)) ?_)
    | (refine dow_ld (by repeat (first | exact upd_same _ _ _ | assumption | refine upd_get (by omega) ?_)) (by first | exact part_all rfl | rfl | (simp only [partA, if_true, List.drop_succ_cons, List.drop_zero, List.take_succ_cons, List.take_zero, List.length_cons, List.length_nil, Nat.reduceAdd, Nat.zero_add]; rfl)) (by simp only [meets, and_true]; (try (repeat' apply And.intro)); all_goals (intro z; simp only [fp_d, fp_f, List.mem_cons, List.not_mem_nil, or_false, false_or, not_false_eq_true, true_and, and_true, Bool.false_eq_true, false_and, not_or]; omega)) ?_)
    | (refine dow_new (by simp only [meets, and_true]; (try (repeat' apply And.intro)); all_goals (intro z; simp only [fp_d, fp_f, List.mem_cons, List.not_mem_nil, or_false, false_or, not_false_eq_true, true_and, and_true, Bool.false_eq_true, false_and, not_or]; omega)) ?_)
    | (refine dow_box (by first | (simp only [cellsA]; rfl) | rfl) (by simp only [meets, and_true]; (try (repeat' apply And.intro)); all_goals (intro z; simp only [fp_d, fp_f, List.mem_cons, List.not_mem_nil, or_false, false_or, not_false_eq_true, true_and, and_true, Bool.false_eq_true, false_and, not_or]; omega)) ?_)
    | (refine dow_st (by repeat (first | exact upd_same _ _ _ | assumption | refine upd_get (by omega) ?_)) (by first | (simp only [cellsA]; rfl) | rfl) rfl (by first | (simp; done) | exact Nat.le_refl _) rfl (by first | exact splice_all rfl | (simp only [splice, List.take_succ_cons, List.take_zero, List.drop_succ_cons, List.drop_zero, List.length_cons, List.length_nil, List.cons_append, List.nil_append, Nat.reduceAdd, Nat.zero_add, Nat.add_zero]; rfl)) (by simp only [meets, and_true]; (try (repeat' apply And.intro)); all_goals (intro z; simp only [fp_d, fp_f, List.mem_cons, List.not_mem_nil, or_false, false_or, not_false_eq_true, true_and, and_true, Bool.false_eq_true, false_and, not_or]; omega)) ?_)
    | (refine dgw_run ?_)
    | (refine dgw_tf ?_)
    | (refine dgw_ft ?_)
    | (refine dgw_un ?_))
  refine loopW_inv mixed (fun d a h1 n1 => ∃ gg b i, a = tl 47 gg ∧ gg 0 = .ptr t 0 ∧ gg 1 = .int .u64 (k : Int) ∧ gg 19 = .sl hb 0 0 C (some C) ∧ gg 20 = .int .i64 (C : Int) ∧ gg 21 = .int .i64 ((i : Nat) : Int) ∧ gg 5 = slV b (waitR H k (F (k - 1)) i).length ∧
    i ≤ C ∧ d = C - i ∧ Grown n h n1 h1 b 1 (waitR H k (F (k - 1)) i)) (d := C) ?_
    ⟨_, 0, 0, rfl, rfl, rfl, rfl, rfl, rfl, rfl, Nat.zero_le _, rfl, g, Nat.le_refl _, fun _ _ => rfl, fun h => absurd rfl h⟩
  intro d a h1 n1 hI
  obtain ⟨gg, b, i, ha, g0, g1, g19, g20, g21, g5, hi, hd, hG⟩ := hI
  subst ha
  rw [B31_0_eq]
  unfold B31_0
  rw [g0, g1, g5, g19, g20, g21]
  have T1 := T.keep g hG.old
  have ht1 := T1.ct
  have hf1 := T1.cf (by omega)
  have hb1 := T1.cb
  rw [hsm] at ht1
  have gd := hG.good
  by_cases hlt : i < C
  · by_cases c1 : H i < k
    · by_cases c2 : F (k - 1) = i
      · repeat (first
          | (refine ow_iaS (z := i) (by omega) (by omega) (by omega) ?_)
          | (refine ow_ld (by repeat (first | exact upd_same _ _ _ | assumption | refine upd_get (by omega) ?_)) (heard_at H hlt) ?_)
          | (refine ow_sub_u (z := ((k - 1 : Nat) : Int)) (by omega) (by omega) (by omega) ?_)
          | (refine ow_iaS (z := k - 1) (by omega) (by omega) (by omega) ?_)
          | (refine ow_ld (by repeat (first | exact upd_same _ _ _ | assumption | refine upd_get (by omega) ?_)) (core_at F (k := k - 1) (by omega)) ?_)
          | (refine cw_t ?_)
          | (refine cw_f ?_)
          | (refine gw_run ?_)
          | (refine gw_tf ?_)
          | (refine gw_ft ?_)
          | (refine gw_un ?_)
          | (refine ow_pick_t ?_)
          | (refine ow_pick_f ?_)
          | (refine ow_new ?_)
          | (refine ow_nck_p ?_)
          | (refine ow_nck_i ?_)
          | (refine ow_nck_f ?_)
          | (refine ow_mki ?_)
          | (refine ow_fa rfl ?_)
          | (refine ow_ext rfl ?_)
          | (refine ow_not rfl ?_)
          | (refine ow_peq_pn rfl ?_)
          | (refine ow_peq_nn rfl ?_)
          | (refine ow_peq_np rfl ?_)
          | (refine ow_ieq_in rfl ?_)
          | (refine ow_ieq_nn rfl ?_)
          | (refine ow_ieq_ni rfl ?_)
          | (refine ow_mkf rfl rfl ?_)
          | (refine ow_box (by first | (simp only [cellsA]; rfl) | rfl) ?_)
          | (refine ow_len rfl ?_)
          | (refine ow_lss_t (by omega) ?_)
          | (refine ow_lss_f (by omega) ?_)
          | (refine ow_leq_t (by omega) ?_)
          | (refine ow_leq_f (by omega) ?_)
          | (refine ow_gtr_t (by omega) ?_)
          | (refine ow_gtr_f (by omega) ?_)
          | (refine ow_geq_t (by omega) ?_)
          | (refine ow_geq_f (by omega) ?_)
          | (refine ow_eql_t (by omega) ?_)
          | (refine ow_eql_f (by omega) ?_)
          | (refine ow_neq_t (by omega) ?_)
          | (refine ow_neq_f (by omega) ?_)
          | (refine ow_add_i rfl (by omega) (by omega) ?_)
          | (refine ow_sub_i rfl (by omega) (by omega) ?_)
          | (refine ow_conv_i (by omega) (by omega) ?_)
          | (refine ow_conv_u (by omega) (by omega) ?_)
          | (refine ow_iaA (by omega) (by omega) rfl ?_)
          | (refine ow_iaS (by omega) (by omega) rfl ?_)
          | (refine ow_ld (by repeat (first | exact upd_same _ _ _ | assumption | refine upd_get (by omega) ?_)) (by first | exact part_all rfl | rfl | (simp only [partA, if_true, List.drop_succ_cons, List.drop_zero, List.take_succ_cons, List.take_zero, List.length_cons, List.length_nil, Nat.reduceAdd, Nat.zero_add]; rfl)) ?_)
          | (refine ow_st (by repeat (first | exact upd_same _ _ _ | assumption | refine upd_get (by omega) ?_)) (by first | (simp only [cellsA]; rfl) | rfl) rfl (by first | (simp; done) | exact Nat.le_refl _) rfl (by first | exact splice_all rfl | (simp only [splice, List.take_succ_cons, List.take_zero, List.drop_succ_cons, List.drop_zero, List.length_cons, List.length_nil, List.cons_append, List.nil_append, Nat.reduceAdd, Nat.zero_add, Nat.add_zero]; rfl)) ?_)
          | (refine ow_build (by simp only [repl, List.append_nil, fillA, List.map, ev, cellsA, splice, List.take_succ_cons, List.take_zero, List.drop_succ_cons, List.drop_zero, List.length_cons, List.length_nil, List.cons_append, List.nil_append, Nat.reduceAdd, Nat.zero_add, Nat.add_zero, true_and, and_self, if_true, Nat.reduceLeDiff, Nat.le_refl]; rfl) ?_)
          | (refine ow_bsl (by simp only [repl, List.append_nil, fillA, List.map, ev, cellsA, splice, List.take_succ_cons, List.take_zero, List.drop_succ_cons, List.drop_zero, List.length_cons, List.length_nil, List.cons_append, List.nil_append, Nat.reduceAdd, Nat.zero_add, Nat.add_zero, true_and, and_self, if_true, Nat.reduceLeDiff, Nat.le_refl]; rfl) ?_)
          | (refine ldR_of (by repeat (first | exact upd_same _ _ _ | assumption | refine upd_get (by omega) ?_)) (by first | exact part_all rfl | rfl | (simp only [partA, if_true, List.drop_succ_cons, List.drop_zero, List.take_succ_cons, List.take_zero, List.length_cons, List.length_nil, Nat.reduceAdd, Nat.zero_add]; rfl)) ?_)
          | (refine dow_ld (by repeat (first | exact upd_same _ _ _ | assumption | refine upd_get (by omega) ?_)) (by first | exact part_all rfl | rfl | (simp only [partA, if_true, List.drop_succ_cons, List.drop_zero, List.take_succ_cons, List.take_zero, List.length_cons, List.length_nil, Nat.reduceAdd, Nat.zero_add]; rfl)) (by simp only [meets, and_true]; (try (repeat' apply And.intro)); all_goals (intro z; simp only [fp_d, fp_f, List.mem_cons, List.not_mem_nil, or_false, false_or, not_false_eq_true, true_and, and_true, Bool.false_eq_true, false_and, not_or]; omega)) ?_)
          | (refine dow_new (by simp only [meets, and_true]; (try (repeat' apply And.intro)); all_goals (intro z; simp only [fp_d, fp_f, List.mem_cons, List.not_mem_nil, or_false, false_or, not_false_eq_true, true_and, and_true, Bool.false_eq_true, false_and, not_or]; omega)) ?_)
          | (refine dow_box (by first | (simp only [cellsA]; rfl) | rfl) (by simp only [meets, and_true]; (try (repeat' apply And.intro)); all_goals (intro z; simp only [fp_d, fp_f, List.mem_cons, List.not_mem_nil, or_false, false_or, not_false_eq_true, true_and, and_true, Bool.false_eq_true, false_and, not_or]; omega)) ?_)
          | (refine dow_st (by repeat (first | exact upd_same _ _ _ | assumption | refine upd_get (by omega) ?_)) (by first | (simp only [cellsA]; rfl) | rfl) rfl (by first | (simp; done) | exact Nat.le_refl _) rfl (by first | exact splice_all rfl | (simp only [splice, List.take_succ_cons, List.take_zero, List.drop_succ_cons, List.drop_zero, List.length_cons, List.length_nil, List.cons_append, List.nil_append, Nat.reduceAdd, Nat.zero_add, Nat.add_zero]; rfl)) (by simp only [meets, and_true]; (try (repeat' apply And.intro)); all_goals (intro z; simp only [fp_d, fp_f, List.mem_cons, List.not_mem_nil, or_false, false_or, not_false_eq_true, true_and, and_true, Bool.false_eq_true, false_and, not_or]; omega)) ?_)
          | (refine dgw_run ?_)
          | (refine dgw_tf ?_)
          | (refine dgw_ft ?_)
          | (refine dgw_un ?_))
        have e : waitR H k (F (k - 1)) (i + 1) = waitR H k (F (k - 1)) i := by rw [waitR_succ, if_neg (fun h => h.2 c2), List.append_nil]
        refine ⟨C - (i + 1), by omega, _, b, i + 1, rfl, g0, g1, g19, g20, rfl, ?_, by omega, rfl, ?_⟩
        · rw [e]; exact g5
        · rw [e]; exact hG
      · have hlen := waitR_len H k (F (k - 1)) i
        repeat (first
          | (refine ow_iaS (z := i) (by omega) (by omega) (by omega) ?_)
          | (refine ow_ld (by repeat (first | exact upd_same _ _ _ | assumption | refine upd_get (by omega) ?_)) (heard_at H hlt) ?_)
          | (refine ow_sub_u (z := ((k - 1 : Nat) : Int)) (by omega) (by omega) (by omega) ?_)
          | (refine ow_iaS (z := k - 1) (by omega) (by omega) (by omega) ?_)
          | (refine ow_ld (by repeat (first | exact upd_same _ _ _ | assumption | refine upd_get (by omega) ?_)) (core_at F (k := k - 1) (by omega)) ?_)
          | (refine ow_app1 (rows := waitR H k (F (k - 1)) i) (row := coreRow i) (b := b) (by omega) (fun hne => by { obtain ⟨a1, a2, a3⟩ := hG.at_ hne; exact upd_get (by omega) a3 }) (waitR_row H k _ _) (by repeat (first | exact upd_same _ _ _ | assumption | refine upd_get (by omega) ?_)) rfl rfl (by omega) (by omega) ?_)
          | (refine cw_t ?_)
          | (refine cw_f ?_)
          | (refine gw_run ?_)
          | (refine gw_tf ?_)
          | (refine gw_ft ?_)
          | (refine gw_un ?_)
          | (refine ow_pick_t ?_)
          | (refine ow_pick_f ?_)
          | (refine ow_new ?_)
          | (refine ow_nck_p ?_)
          | (refine ow_nck_i ?_)
          | (refine ow_nck_f ?_)
          | (refine ow_mki ?_)
          | (refine ow_fa rfl ?_)
          | (refine ow_ext rfl ?_)
          | (refine ow_not rfl ?_)
          | (refine ow_peq_pn rfl ?_)
          | (refine ow_peq_nn rfl ?_)
          | (refine ow_peq_np rfl ?_)
          | (refine ow_ieq_in rfl ?_)
          | (refine ow_ieq_nn rfl ?_)
          | (refine ow_ieq_ni rfl ?_)
          | (refine ow_mkf rfl rfl ?_)
          | (refine ow_box (by first | (simp only [cellsA]; rfl) | rfl) ?_)
          | (refine ow_len rfl ?_)
          | (refine ow_lss_t (by omega) ?_)
          | (refine ow_lss_f (by omega) ?_)
          | (refine ow_leq_t (by omega) ?_)
          | (refine ow_leq_f (by omega) ?_)
          | (refine ow_gtr_t (by omega) ?_)
          | (refine ow_gtr_f (by omega) ?_)
          | (refine ow_geq_t (by omega) ?_)
          | (refine ow_geq_f (by omega) ?_)
          | (refine ow_eql_t (by omega) ?_)
          | (refine ow_eql_f (by omega) ?_)
          | (refine ow_neq_t (by omega) ?_)
          | (refine ow_neq_f (by omega) ?_)
          | (refine ow_add_i rfl (by omega) (by omega) ?_)
          | (refine ow_sub_i rfl (by omega) (by omega) ?_)
          | (refine ow_conv_i (by omega) (by omega) ?_)
          | (refine ow_conv_u (by omega) (by omega) ?_)
          | (refine ow_iaA (by omega) (by omega) rfl ?_)
          | (refine ow_iaS (by omega) (by omega) rfl ?_)
          | (refine ow_ld (by repeat (first | exact upd_same _ _ _ | assumption | refine upd_get (by omega) ?_)) (by first | exact part_all rfl | rfl | (simp only [partA, if_true, List.drop_succ_cons, List.drop_zero, List.take_succ_cons, List.take_zero, List.length_cons, List.length_nil, Nat.reduceAdd, Nat.zero_add]; rfl)) ?_)
          | (refine ow_st (by repeat (first | exact upd_same _ _ _ | assumption | refine upd_get (by omega) ?_)) (by first | (simp only [cellsA]; rfl) | rfl) rfl (by first | (simp; done) | exact Nat.le_refl _) rfl (by first | exact splice_all rfl | (simp only [splice, List.take_succ_cons, List.take_zero, List.drop_succ_cons, List.drop_zero, List.length_cons, List.length_nil, List.cons_append, List.nil_append, Nat.reduceAdd, Nat.zero_add, Nat.add_zero]; rfl)) ?_)
          | (refine ow_build (by simp only [repl, List.append_nil, fillA, List.map, ev, cellsA, splice, List.take_succ_cons, List.take_zero, List.drop_succ_cons, List.drop_zero, List.length_cons, List.length_nil, List.cons_append, List.nil_append, Nat.reduceAdd, Nat.zero_add, Nat.add_zero, true_and, and_self, if_true, Nat.reduceLeDiff, Nat.le_refl]; rfl) ?_)
          | (refine ow_bsl (by simp only [repl, List.append_nil, fillA, List.map, ev, cellsA, splice, List.take_succ_cons, List.take_zero, List.drop_succ_cons, List.drop_zero, List.length_cons, List.length_nil, List.cons_append, List.nil_append, Nat.reduceAdd, Nat.zero_add, Nat.add_zero, true_and, and_self, if_true, Nat.reduceLeDiff, Nat.le_refl]; rfl) ?_)
          | (refine ldR_of (by repeat (first | exact upd_same _ _ _ | assumption | refine upd_get (by omega) ?_)) (by first | exact part_all rfl | rfl | (simp only [partA, if_true, List.drop_succ_cons, List.drop_zero, List.take_succ_cons, List.take_zero, List.length_cons, List.length_nil, Nat.reduceAdd, Nat.zero_add]; rfl)) ?_)
          | (refine dow_ld (by repeat (first | exact upd_same _ _ _ | assumption | refine upd_get (by omega) ?_)) (by first | exact part_all rfl | rfl | (simp only [partA, if_true, List.drop_succ_cons, List.drop_zero, List.take_succ_cons, List.take_zero, List.length_cons, List.length_nil, Nat.reduceAdd, Nat.zero_add]; rfl)) (by simp only [meets, and_true]; (try (repeat' apply And.intro)); all_goals (intro z; simp only [fp_d, fp_f, List.mem_cons, List.not_mem_nil, or_false, false_or, not_false_eq_true, true_and, and_true, Bool.false_eq_true, false_and, not_or]; omega)) ?_)
          | (refine dow_new (by simp only [meets, and_true]; (try (repeat' apply And.intro)); all_goals (intro z; simp only [fp_d, fp_f, List.mem_cons, List.not_mem_nil, or_false, false_or, not_false_eq_true, true_and, and_true, Bool.false_eq_true, false_and, not_or]; omega)) ?_)
          | (refine dow_box (by first | (simp only [cellsA]; rfl) | rfl) (by simp only [meets, and_true]; (try (repeat' apply And.intro)); all_goals (intro z; simp only [fp_d, fp_f, List.mem_cons, List.not_mem_nil, or_false, false_or, not_false_eq_true, true_and, and_true, Bool.false_eq_true, false_and, not_or]; omega)) ?_)
          | (refine dow_st (by repeat (first | exact upd_same _ _ _ | assumption | refine upd_get (by omega) ?_)) (by first | (simp only [cellsA]; rfl) | rfl) rfl (by first | (simp; done) | exact Nat.le_refl _) rfl (by first | exact splice_all rfl | (simp only [splice, List.take_succ_cons, List.take_zero, List.drop_succ_cons, List.drop_zero, List.length_cons, List.length_nil, List.cons_append, List.nil_append, Nat.reduceAdd, Nat.zero_add, Nat.add_zero]; rfl)) (by simp only [meets, and_true]; (try (repeat' apply And.intro)); all_goals (intro z; simp only [fp_d, fp_f, List.mem_cons, List.not_mem_nil, or_false, false_or, not_false_eq_true, true_and, and_true, Bool.false_eq_true, false_and, not_or]; omega)) ?_)
          | (refine dgw_run ?_)
          | (refine dgw_tf ?_)
          | (refine dgw_ft ?_)
          | (refine dgw_un ?_))
        have e : waitR H k (F (k - 1)) (i + 1) = waitR H k (F (k - 1)) i ++ [coreRow i] := by rw [waitR_succ, if_pos ⟨c1, c2⟩]
        have g2 : Good (n1 + 1) (upd h1 n1 (some (.cells 1 (coreRow i)))) := gd.new (by simp [belowB, coreRow, belowL, below])
        refine ⟨C - (i + 1), by omega, _, n1 + 1, i + 1, rfl, g0, g1, g19, g20, rfl, ?_, by omega, rfl, ?_⟩
        · rw [e, List.length_append]; rfl
        · rw [e]
          have le2 := hG.le
          refine ⟨appH_good (x0 := n1) g2 (fun hne => ?_) (upd_same _ _ _), by omega, fun x hx => ?_, fun _ => ⟨by omega, by omega, appH_new⟩⟩
          · obtain ⟨a1, a2, a3⟩ := hG.at_ hne
            exact upd_get (by omega) a3
          · refine (appH_old (by omega) (fun hne => by have := (hG.at_ hne).1; omega)).trans ?_
            rw [upd_ne _ _ (by omega)]
            exact hG.old x hx
    · repeat (first
        | (refine ow_iaS (z := i) (by omega) (by omega) (by omega) ?_)
        | (refine ow_ld (by repeat (first | exact upd_same _ _ _ | assumption | refine upd_get (by omega) ?_)) (heard_at H hlt) ?_)
        | (refine cw_t ?_)
        | (refine cw_f ?_)
        | (refine gw_run ?_)
        | (refine gw_tf ?_)
        | (refine gw_ft ?_)
        | (refine gw_un ?_)
        | (refine ow_pick_t ?_)
        | (refine ow_pick_f ?_)
        | (refine ow_new ?_)
        | (refine ow_nck_p ?_)
        | (refine ow_nck_i ?_)
        | (refine ow_nck_f ?_)
        | (refine ow_mki ?_)
        | (refine ow_fa rfl ?_)
        | (refine ow_ext rfl ?_)
        | (refine ow_not rfl ?_)
        | (refine ow_peq_pn rfl ?_)
        | (refine ow_peq_nn rfl ?_)
        | (refine ow_peq_np rfl ?_)
        | (refine ow_ieq_in rfl ?_)
        | (refine ow_ieq_nn rfl ?_)
        | (refine ow_ieq_ni rfl ?_)
        | (refine ow_mkf rfl rfl ?_)
        | (refine ow_box (by first | (simp only [cellsA]; rfl) | rfl) ?_)
        | (refine ow_len rfl ?_)
        | (refine ow_lss_t (by omega) ?_)
        | (refine ow_lss_f (by omega) ?_)
        | (refine ow_leq_t (by omega) ?_)
        | (refine ow_leq_f (by omega) ?_)
        | (refine ow_gtr_t (by omega) ?_)
        | (refine ow_gtr_f (by omega) ?_)
        | (refine ow_geq_t (by omega) ?_)
        | (refine ow_geq_f (by omega) ?_)
        | (refine ow_eql_t (by omega) ?_)
        | (refine ow_eql_f (by omega) ?_)
        | (refine ow_neq_t (by omega) ?_)
        | (refine ow_neq_f (by omega) ?_)
        | (refine ow_add_i rfl (by omega) (by omega) ?_)
        | (refine ow_sub_i rfl (by omega) (by omega) ?_)
        | (refine ow_conv_i (by omega) (by omega) ?_)
        | (refine ow_conv_u (by omega) (by omega) ?_)
        | (refine ow_iaA (by omega) (by omega) rfl ?_)
        | (refine ow_iaS (by omega) (by omega) rfl ?_)
        | (refine ow_ld (by repeat (first | exact upd_same _ _ _ | assumption | refine upd_get (by omega) ?_)) (by first | exact part_all rfl | rfl | (simp only [partA, if_true, List.drop_succ_cons, List.drop_zero, List.take_succ_cons, List.take_zero, List.length_cons, List.length_nil, Nat.reduceAdd, Nat.zero_add]; rfl)) ?_)
        | (refine ow_st (by repeat (first | exact upd_same _ _ _ | assumption | refine upd_get (by omega) ?_)) (by first | (simp only [cellsA]; rfl) | rfl) rfl (by first | (simp; done) | exact Nat.le_refl _) rfl (by first | exact splice_all rfl | (simp only [splice, List.take_succ_cons, List.take_zero, List.drop_succ_cons, List.drop_zero, List.length_cons, List.length_nil, List.cons_append, List.nil_append, Nat.reduceAdd, Nat.zero_add, Nat.add_zero]; rfl)) ?_)
        | (refine ow_build (by simp only [repl, List.append_nil, fillA, List.map, ev, cellsA, splice, List.take_succ_cons, List.take_zero, List.drop_succ_cons, List.drop_zero, List.length_cons, List.length_nil, List.cons_append, List.nil_append, Nat.reduceAdd, Nat.zero_add, Nat.add_zero, true_and, and_self, if_true, Nat.reduceLeDiff, Nat.le_refl]; rfl) ?_)
        | (refine ow_bsl (by simp only [repl, List.append_nil, fillA, List.map, ev, cellsA, splice, List.take_succ_cons, List.take_zero, List.drop_succ_cons, List.drop_zero, List.length_cons, List.length_nil, List.cons_append, List.nil_append, Nat.reduceAdd, Nat.zero_add, Nat.add_zero, true_and, and_self, if_true, Nat.reduceLeDiff, Nat.le_refl]; rfl) ?_)
        | (refine ldR_of (by repeat (first | exact upd_same _ _ _ | assumption | refine upd_get (by omega) ?_)) (by first | exact part_all rfl | rfl | (simp only [partA, if_true, List.drop_succ_cons, List.drop_zero, List.take_succ_cons, List.take_zero, List.length_cons, List.length_nil, Nat.reduceAdd, Nat.zero_add]; rfl)) ?_)
        | (refine dow_ld (by repeat (first | exact upd_same _ _ _ | assumption | refine upd_get (by omega) ?_)) (by first | exact part_all rfl | rfl | (simp only [partA, if_true, List.drop_succ_cons, List.drop_zero, List.take_succ_cons, List.take_zero, List.length_cons, List.length_nil, Nat.reduceAdd, Nat.zero_add]; rfl)) (by simp only [meets, and_true]; (try (repeat' apply And.intro)); all_goals (intro z; simp only [fp_d, fp_f, List.mem_cons, List.not_mem_nil, or_false, false_or, not_false_eq_true, true_and, and_true, Bool.false_eq_true, false_and, not_or]; omega)) ?_)
        | (refine dow_new (by simp only [meets, and_true]; (try (repeat' apply And.intro)); all_goals (intro z; simp only [fp_d, fp_f, List.mem_cons, List.not_mem_nil, or_false, false_or, not_false_eq_true, true_and, and_true, Bool.false_eq_true, false_and, not_or]; omega)) ?_)
        | (refine dow_box (by first | (simp only [cellsA]; rfl) | rfl) (by simp only [meets, and_true]; (try (repeat' apply And.intro)); all_goals (intro z; simp only [fp_d, fp_f, List.mem_cons, List.not_mem_nil, or_false, false_or, not_false_eq_true, true_and, and_true, Bool.false_eq_true, false_and, not_or]; omega)) ?_)
        | (refine dow_st (by repeat (first | exact upd_same _ _ _ | assumption | refine upd_get (by omega) ?_)) (by first | (simp only [cellsA]; rfl) | rfl) rfl (by first | (simp; done) | exact Nat.le_refl _) rfl (by first | exact splice_all rfl | (simp only [splice, List.take_succ_cons, List.take_zero, List.drop_succ_cons, List.drop_zero, List.length_cons, List.length_nil, List.cons_append, List.nil_append, Nat.reduceAdd, Nat.zero_add, Nat.add_zero]; rfl)) (by simp only [meets, and_true]; (try (repeat' apply And.intro)); all_goals (intro z; simp only [fp_d, fp_f, List.mem_cons, List.not_mem_nil, or_false, false_or, not_false_eq_true, true_and, and_true, Bool.false_eq_true, false_and, not_or]; omega)) ?_)
        | (refine dgw_run ?_)
        | (refine dgw_tf ?_)
        | (refine dgw_ft ?_)
        | (refine dgw_un ?_))
      have e : waitR H k (F (k - 1)) (i + 1) = waitR H k (F (k - 1)) i := by rw [waitR_succ, if_neg (fun h => c1 h.1), List.append_nil]
      refine ⟨C - (i + 1), by omega, _, b, i + 1, rfl, g0, g1, g19, g20, rfl, ?_, by omega, rfl, ?_⟩
      · rw [e]; exact g5
      · rw [e]; exact hG
  · repeat (first
      | (refine cw_t ?_)
      | (refine cw_f ?_)
      | (refine gw_run ?_)
      | (refine gw_tf ?_)
      | (refine gw_ft ?_)
      | (refine gw_un ?_)
      | (refine ow_pick_t ?_)
      | (refine ow_pick_f ?_)
      | (refine ow_new ?_)
      | (refine ow_nck_p ?_)
      | (refine ow_nck_i ?_)
      | (refine ow_nck_f ?_)
      | (refine ow_mki ?_)
      | (refine ow_fa rfl ?_)
      | (refine ow_ext rfl ?_)
      | (refine ow_not rfl ?_)
      | (refine ow_peq_pn rfl ?_)
      | (refine ow_peq_nn rfl ?_)
      | (refine ow_peq_np rfl ?_)
      | (refine ow_ieq_in rfl ?_)
      | (refine ow_ieq_nn rfl ?_)
      | (refine ow_ieq_ni rfl ?_)
      | (refine ow_mkf rfl rfl ?_)
      | (refine ow_box (by first | (simp only [cellsA]; rfl) | rfl) ?_)
      | (refine ow_len rfl ?_)
      | (refine ow_lss_t (by omega) ?_)
      | (refine ow_lss_f (by omega) ?_)
      | (refine ow_leq_t (by omega) ?_)
      | (refine ow_leq_f (by omega) ?_)
      | (refine ow_gtr_t (by omega) ?_)
      | (refine ow_gtr_f (by omega) ?_)
      | (refine ow_geq_t (by omega) ?_)
      | (refine ow_geq_f (by omega) ?_)
      | (refine ow_eql_t (by omega) ?_)
      | (refine ow_eql_f (by omega) ?_)
      | (refine ow_neq_t (by omega) ?_)
      | (refine ow_neq_f (by omega) ?_)
      | (refine ow_add_i rfl (by omega) (by omega) ?_)
      | (refine ow_sub_i rfl (by omega) (by omega) ?_)
      | (refine ow_conv_i (by omega) (by omega) ?_)
      | (refine ow_conv_u (by omega) (by omega) ?_)
      | (refine ow_iaA (by omega) (by omega) rfl ?_)
      | (refine ow_iaS (by omega) (by omega) rfl ?_)
      | (refine ow_ld (by repeat (first | exact upd_same _ _ _ | assumption | refine upd_get (by omega) ?_)) (by first | exact part_all rfl | rfl | (simp only [partA, if_true, List.drop_succ_cons, List.drop_zero, List.take_succ_cons, List.take_zero, List.length_cons, List.length_nil, Nat.reduceAdd, Nat.zero_add]; rfl)) ?_)
      | (refine ow_st (by repeat (first | exact upd_same _ _ _ | assumption | refine upd_get (by omega) ?_)) (by first | (simp only [cellsA]; rfl) | rfl) rfl (by first | (simp; done) | exact Nat.le_refl _) rfl (by first | exact splice_all rfl | (simp only [splice, List.take_succ_cons, List.take_zero, List.drop_succ_cons, List.drop_zero, List.length_cons, List.length_nil, List.cons_append, List.nil_append, Nat.reduceAdd, Nat.zero_add, Nat.add_zero]; rfl)) ?_)
      | (refine ow_build (by simp only [repl, List.append_nil, fillA, List.map, ev, cellsA, splice, List.take_succ_cons, List.take_zero, List.drop_succ_cons, List.drop_zero, List.length_cons, List.length_nil, List.cons_append, List.nil_append, Nat.reduceAdd, Nat.zero_add, Nat.add_zero, true_and, and_self, if_true, Nat.reduceLeDiff, Nat.le_refl]; rfl) ?_)
      | (refine ow_bsl (by simp only [repl, List.append_nil, fillA, List.map, ev, cellsA, splice, List.take_succ_cons, List.take_zero, List.drop_succ_cons, List.drop_zero, List.length_cons, List.length_nil, List.cons_append, List.nil_append, Nat.reduceAdd, Nat.zero_add, Nat.add_zero, true_and, and_self, if_true, Nat.reduceLeDiff, Nat.le_refl]; rfl) ?_)
      | (refine ldR_of (by repeat (first | exact upd_same _ _ _ | assumption | refine upd_get (by omega) ?_)) (by first | exact part_all rfl | rfl | (simp only [partA, if_true, List.drop_succ_cons, List.drop_zero, List.take_succ_cons, List.take_zero, List.length_cons, List.length_nil, Nat.reduceAdd, Nat.zero_add]; rfl)) ?_)
      | (refine dow_ld (by repeat (first | exact upd_same _ _ _ | assumption | refine upd_get (by omega) ?_)) (by first | exact part_all rfl | rfl | (simp only [partA, if_true, List.drop_succ_cons, List.drop_zero, List.take_succ_cons, List.take_zero, List.length_cons, List.length_nil, Nat.reduceAdd, Nat.zero_add]; rfl)) (by simp only [meets, and_true]; (try (repeat' apply And.intro)); all_goals (intro z; simp only [fp_d, fp_f, List.mem_cons, List.not_mem_nil, or_false, false_or, not_false_eq_true, true_and, and_true, Bool.false_eq_true, false_and, not_or]; omega)) ?_)
      | (refine dow_new (by simp only [meets, and_true]; (try (repeat' apply And.intro)); all_goals (intro z; simp only [fp_d, fp_f, List.mem_cons, List.not_mem_nil, or_false, false_or, not_false_eq_true, true_and, and_true, Bool.false_eq_true, false_and, not_or]; omega)) ?_)
      | (refine dow_box (by first | (simp only [cellsA]; rfl) | rfl) (by simp only [meets, and_true]; (try (repeat' apply And.intro)); all_goals (intro z; simp only [fp_d, fp_f, List.mem_cons, List.not_mem_nil, or_false, false_or, not_false_eq_true, true_and, and_true, Bool.false_eq_true, false_and, not_or]; omega)) ?_)
      | (refine dow_st (by repeat (first | exact upd_same _ _ _ | assumption | refine upd_get (by omega) ?_)) (by first | (simp only [cellsA]; rfl) | rfl) rfl (by first | (simp; done) | exact Nat.le_refl _) rfl (by first | exact splice_all rfl | (simp only [splice, List.take_succ_cons, List.take_zero, List.drop_succ_cons, List.drop_zero, List.length_cons, List.length_nil, List.cons_append, List.nil_append, Nat.reduceAdd, Nat.zero_add, Nat.add_zero]; rfl)) (by simp only [meets, and_true]; (try (repeat' apply And.intro)); all_goals (intro z; simp only [fp_d, fp_f, List.mem_cons, List.not_mem_nil, or_false, false_or, not_false_eq_true, true_and, and_true, Bool.false_eq_true, false_and, not_or]; omega)) ?_)
      | (refine dgw_run ?_)
      | (refine dgw_tf ?_)
      | (refine dgw_ft ?_)
      | (refine dgw_un ?_))
    rw [loopK_exit, X31_0_0_eq]
    unfold X31_0_0
    have hiC : i = C := by omega
    subst hiC
    exact ⟨b, g5, hG⟩

theorem done_ev (g : Good n h) (T : EpAt h t fb hb C m F H) {k : Nat} (h1 : 1 ≤ k) (hk : k ≤ m) :
    callW Tryz.prog 32 [.ptr t 0, .int .u64 (k : Int)] h n fun v h' n' => v = .bool (decide ((waitR H k (F (k - 1)) C).length = 0)) ∧ Grown n h n' h' 0 1 [] := by
  have l8 := T.lim2
  have := T.lim
  obtain ⟨v2, h2, n2, hf2, b2, hv2, G2⟩ := callW_elim (waits_ev g T h1 hk)
  subst hv2
  refine W32_ok ?_
  unfold W32
  by_cases h0 : (waitR H k (F (k - 1)) C).length = 0
  · repeat (first
      | (refine cal (now_ev T) ?_)
      | (refine cal hf2 ?_)
      | (refine ow_len (lenA_slV _ _) ?_)
      | (refine cw_t ?_)
      | (refine cw_f ?_)
      | (refine gw_run ?_)
      | (refine gw_tf ?_)
      | (refine gw_ft ?_)
      | (refine gw_un ?_)
      | (refine ow_pick_t ?_)
      | (refine ow_pick_f ?_)
      | (refine ow_new ?_)
      | (refine ow_nck_p ?_)
      | (refine ow_nck_i ?_)
      | (refine ow_nck_f ?_)
      | (refine ow_mki ?_)
      | (refine ow_fa rfl ?_)
      | (refine ow_ext rfl ?_)
      | (refine ow_not rfl ?_)
      | (refine ow_peq_pn rfl ?_)
      | (refine ow_peq_nn rfl ?_)
      | (refine ow_peq_np rfl ?_)
      | (refine ow_ieq_in rfl ?_)
      | (refine ow_ieq_nn rfl ?_)
      | (refine ow_ieq_ni rfl ?_)
      | (refine ow_mkf rfl rfl ?_)
      | (refine ow_box (by first | (simp only [cellsA]; rfl) | rfl) ?_)
      | (refine ow_len rfl ?_)
      | (refine ow_lss_t (by omega) ?_)
      | (refine ow_lss_f (by omega) ?_)
      | (refine ow_leq_t (by omega) ?_)
      | (refine ow_leq_f (by omega) ?_)
      | (refine ow_gtr_t (by omega) ?_)
      | (refine ow_gtr_f (by omega) ?_)
      | (refine ow_geq_t (by omega) ?_)
      | (refine ow_geq_f (by omega) ?_)
      | (refine ow_eql_t (by omega) ?_)
      | (refine ow_eql_f (by omega) ?_)
      | (refine ow_neq_t (by omega) ?_)
      | (refine ow_neq_f (by omega) ?_)
      | (refine ow_add_i rfl (by omega) (by omega) ?_)
      | (refine ow_sub_i rfl (by omega) (by omega) ?_)
      | (refine ow_conv_i (by omega) (by omega) ?_)
      | (refine ow_conv_u (by omega) (by omega) ?_)
      | (refine ow_iaA (by omega) (by omega) rfl ?_)
      | (refine ow_iaS (by omega) (by omega) rfl ?_)
      | (refine ow_ld (by repeat (first | exact upd_same _ _ _ | assumption | refine upd_get (by omega) ?_)) (by first | exact part_all rfl | rfl | (simp only [partA, if_true, List.drop_succ_cons, List.drop_zero, List.take_succ_cons, List.take_zero, List.length_cons, List.length_nil, Nat.reduceAdd, Nat.zero_add]; rfl)) ?_)
      | (refine ow_st (by repeat (first | exact upd_same _ _ _ | assumption | refine upd_get (by omega) ?_)) (by first | (simp only [cellsA]; rfl) | rfl) rfl (by first | (simp; done) | exact Nat.le_refl _) rfl (by first | exact splice_all rfl | (simp only [splice, List.take_succ_cons, List.take_zero, List.drop_succ_cons, List.drop_zero, List.length_cons, List.length_nil, List.cons_append, List.nil_append, Nat.reduceAdd, Nat.zero_add, Nat.add_zero]; rfl)) ?_)
      | (refine ow_build (by simp only [repl, List.append_nil, fillA, List.map, ev, cellsA, splice, List.take_succ_cons, List.take_zero, List.drop_succ_cons, List.drop_zero, List.length_cons, List.length_nil, List.cons_append, List.nil_append, Nat.reduceAdd, Nat.zero_add, Nat.add_zero, true_and, and_self, if_true, Nat.reduceLeDiff, Nat.le_refl]; rfl) ?_)
      | (refine ow_bsl (by simp only [repl, List.append_nil, fillA, List.map, ev, cellsA, splice, List.take_succ_cons, List.take_zero, List.drop_succ_cons, List.drop_zero, List.length_cons, List.length_nil, List.cons_append, List.nil_append, Nat.reduceAdd, Nat.zero_add, Nat.add_zero, true_and, and_self, if_true, Nat.reduceLeDiff, Nat.le_refl]; rfl) ?_)
      | (refine ldR_of (by repeat (first | exact upd_same _ _ _ | assumption | refine upd_get (by omega) ?_)) (by first | exact part_all rfl | rfl | (simp only [partA, if_true, List.drop_succ_cons, List.drop_zero, List.take_succ_cons, List.take_zero, List.length_cons, List.length_nil, Nat.reduceAdd, Nat.zero_add]; rfl)) ?_)
      | (refine dow_ld (by repeat (first | exact upd_same _ _ _ | assumption | refine upd_get (by omega) ?_)) (by first | exact part_all rfl | rfl | (simp only [partA, if_true, List.drop_succ_cons, List.drop_zero, List.take_succ_cons, List.take_zero, List.length_cons, List.length_nil, Nat.reduceAdd, Nat.zero_add]; rfl)) (by simp only [meets, and_true]; (try (repeat' apply And.intro)); all_goals (intro z; simp only [fp_d, fp_f, List.mem_cons, List.not_mem_nil, or_false, false_or, not_false_eq_true, true_and, and_true, Bool.false_eq_true, false_and, not_or]; omega)) ?_)
      | (refine dow_new (by simp only [meets, and_true]; (try (repeat' apply And.intro)); all_goals (intro z; simp only [fp_d, fp_f, List.mem_cons, List.not_mem_nil, or_false, false_or, not_false_eq_true, true_and, and_true, Bool.false_eq_true, false_and, not_or]; omega)) ?_)
      | (refine dow_box (by first | (simp only [cellsA]; rfl) | rfl) (by simp only [meets, and_true]; (try (repeat' apply And.intro)); all_goals (intro z; simp only [fp_d, fp_f, List.mem_cons, List.not_mem_nil, or_false, false_or, not_false_eq_true, true_and, and_true, Bool.false_eq_true, false_and, not_or]; omega)) ?_)
      | (refine dow_st (by repeat (first | exact upd_same _ _ _ | assumption | refine upd_get (by omega) ?_)) (by first | (simp only [cellsA]; rfl) | rfl) rfl (by first | (simp; done) | exact Nat.le_refl _) rfl (by first | exact splice_all rfl | (simp only [splice, List.take_succ_cons, List.take_zero, List.drop_succ_cons, List.drop_zero, List.length_cons, List.length_nil, List.cons_append, List.nil_append, Nat.reduceAdd, Nat.zero_add, Nat.add_zero]; rfl)) (by simp only [meets, and_true]; (try (repeat' apply And.intro)); all_goals (intro z; simp only [fp_d, fp_f, List.mem_cons, List.not_mem_nil, or_false, false_or, not_false_eq_true, true_and, and_true, Bool.false_eq_true, false_and, not_or]; omega)) ?_)
      | (refine dgw_run ?_)
      | (refine dgw_tf ?_)
      | (refine dgw_ft ?_)
      | (refine dgw_un ?_))
    exact ⟨by rw [decide_eq_true h0], G2.good, G2.le, G2.old, fun hne => absurd rfl hne⟩
  · repeat (first
      | (refine cal (now_ev T) ?_)
      | (refine cal hf2 ?_)
      | (refine ow_len (lenA_slV _ _) ?_)
      | (refine cw_t ?_)
      | (refine cw_f ?_)
      | (refine gw_run ?_)
      | (refine gw_tf ?_)
      | (refine gw_ft ?_)
      | (refine gw_un ?_)
      | (refine ow_pick_t ?_)
      | (refine ow_pick_f ?_)
      | (refine ow_new ?_)
      | (refine ow_nck_p ?_)
      | (refine ow_nck_i ?_)
      | (refine ow_nck_f ?_)
      | (refine ow_mki ?_)
      | (refine ow_fa rfl ?_)
      | (refine ow_ext rfl ?_)
      | (refine ow_not rfl ?_)
      | (refine ow_peq_pn rfl ?_)
      | (refine ow_peq_nn rfl ?_)
      | (refine ow_peq_np rfl ?_)
      | (refine ow_ieq_in rfl ?_)
      | (refine ow_ieq_nn rfl ?_)
      | (refine ow_ieq_ni rfl ?_)
      | (refine ow_mkf rfl rfl ?_)
      | (refine ow_box (by first | (simp only [cellsA]; rfl) | rfl) ?_)
      | (refine ow_len rfl ?_)
      | (refine ow_lss_t (by omega) ?_)
      | (refine ow_lss_f (by omega) ?_)
      | (refine ow_leq_t (by omega) ?_)
      | (refine ow_leq_f (by omega) ?_)
      | (refine ow_gtr_t (by omega) ?_)
      | (refine ow_gtr_f (by omega) ?_)
      | (refine ow_geq_t (by omega) ?_)
      | (refine ow_geq_f (by omega) ?_)
      | (refine ow_eql_t (by omega) ?_)
      | (refine ow_eql_f (by omega) ?_)
      | (refine ow_neq_t (by omega) ?_)
      | (refine ow_neq_f (by omega) ?_)
      | (refine ow_add_i rfl (by omega) (by omega) ?_)
      | (refine ow_sub_i rfl (by omega) (by omega) ?_)
      | (refine ow_conv_i (by omega) (by omega) ?_)
      | (refine ow_conv_u (by omega) (by omega) ?_)
      | (refine ow_iaA (by omega) (by omega) rfl ?_)
      | (refine ow_iaS (by omega) (by omega) rfl ?_)
      | (refine ow_ld (by repeat (first | exact upd_same _ _ _ | assumption | refine upd_get (by omega) ?_)) (by first | exact part_all rfl | rfl | (simp only [partA, if_true, List.drop_succ_cons, List.drop_zero, List.take_succ_cons, List.take_zero, List.length_cons, List.length_nil, Nat.reduceAdd, Nat.zero_add]; rfl)) ?_)
      | (refine ow_st (by repeat (first | exact upd_same _ _ _ | assumption | refine upd_get (by omega) ?_)) (by first | (simp only [cellsA]; rfl) | rfl) rfl (by first | (simp; done) | exact Nat.le_refl _) rfl (by first | exact splice_all rfl | (simp only [splice, List.take_succ_cons, List.take_zero, List.drop_succ_cons, List.drop_zero, List.length_cons, List.length_nil, List.cons_append, List.nil_append, Nat.reduceAdd, Nat.zero_add, Nat.add_zero]; rfl)) ?_)
      | (refine ow_build (by simp only [repl, List.append_nil, fillA, List.map, ev, cellsA, splice, List.take_succ_cons, List.take_zero, List.drop_succ_cons, List.drop_zero, List.length_cons, List.length_nil, List.cons_append, List.nil_append, Nat.reduceAdd, Nat.zero_add, Nat.add_zero, true_and, and_self, if_true, Nat.reduceLeDiff, Nat.le_refl]; rfl) ?_)
      | (refine ow_bsl (by simp only [repl, List.append_nil, fillA, List.map, ev, cellsA, splice, List.take_succ_cons, List.take_zero, List.drop_succ_cons, List.drop_zero, List.length_cons, List.length_nil, List.cons_append, List.nil_append, Nat.reduceAdd, Nat.zero_add, Nat.add_zero, true_and, and_self, if_true, Nat.reduceLeDiff, Nat.le_refl]; rfl) ?_)
      | (refine ldR_of (by repeat (first | exact upd_same _ _ _ | assumption | refine upd_get (by omega) ?_)) (by first | exact part_all rfl | rfl | (simp only [partA, if_true, List.drop_succ_cons, List.drop_zero, List.take_succ_cons, List.take_zero, List.length_cons, List.length_nil, Nat.reduceAdd, Nat.zero_add]; rfl)) ?_)
      | (refine dow_ld (by repeat (first | exact upd_same _ _ _ | assumption | refine upd_get (by omega) ?_)) (by first | exact part_all rfl | rfl | (simp only [partA, if_true, List.drop_succ_cons, List.drop_zero, List.take_succ_cons, List.take_zero, List.length_cons, List.length_nil, Nat.reduceAdd, Nat.zero_add]; rfl)) (by simp only [meets, and_true]; (try (repeat' apply And.intro)); all_goals (intro z; simp only [fp_d, fp_f, List.mem_cons, List.not_mem_nil, or_false, false_or, not_false_eq_true, true_and, and_true, Bool.false_eq_true, false_and, not_or]; omega)) ?_)
      | (refine dow_new (by simp only [meets, and_true]; (try (repeat' apply And.intro)); all_goals (intro z; simp only [fp_d, fp_f, List.mem_cons, List.not_mem_nil, or_false, false_or, not_false_eq_true, true_and, and_true, Bool.false_eq_true, false_and, not_or]; omega)) ?_)
      | (refine dow_box (by first | (simp only [cellsA]; rfl) | rfl) (by simp only [meets, and_true]; (try (repeat' apply And.intro)); all_goals (intro z; simp only [fp_d, fp_f, List.mem_cons, List.not_mem_nil, or_false, false_or, not_false_eq_true, true_and, and_true, Bool.false_eq_true, false_and, not_or]; omega)) ?_)
      | (refine dow_st (by repeat (first | exact upd_same _ _ _ | assumption | refine upd_get (by omega) ?_)) (by first | (simp only [cellsA]; rfl) | rfl) rfl (by first | (simp; done) | exact Nat.le_refl _) rfl (by first | exact splice_all rfl | (simp only [splice, List.take_succ_cons, List.take_zero, List.drop_succ_cons, List.drop_zero, List.length_cons, List.length_nil, List.cons_append, List.nil_append, Nat.reduceAdd, Nat.zero_add, Nat.add_zero]; rfl)) (by simp only [meets, and_true]; (try (repeat' apply And.intro)); all_goals (intro z; simp only [fp_d, fp_f, List.mem_cons, List.not_mem_nil, or_false, false_or, not_false_eq_true, true_and, and_true, Bool.false_eq_true, false_and, not_or]; omega)) ?_)
      | (refine dgw_run ?_)
      | (refine dgw_tf ?_)
      | (refine dgw_ft ?_)
      | (refine dgw_un ?_))
    exact ⟨by rw [decide_eq_false h0], G2.good, G2.le, G2.old, fun hne => absurd rfl hne⟩

theorem done_no (T : EpAt h t fb hb C m F H) {k : Nat} (hk : k = 0 ∨ m < k) (hl : k < 1000000000) :
    FEv Tryz.prog 32 [.ptr t 0, .int .u64 (k : Int)] h n (.bool false) h n := by
  refine fev_exact (W32_ok ?_)
  unfold W32
  by_cases h0 : k = 0
  · repeat (first
      | (refine cal (now_ev T) ?_)
      | (refine cw_t ?_)
      | (refine cw_f ?_)
      | (refine gw_run ?_)
      | (refine gw_tf ?_)
      | (refine gw_ft ?_)
      | (refine gw_un ?_)
      | (refine ow_pick_t ?_)
      | (refine ow_pick_f ?_)
      | (refine ow_new ?_)
      | (refine ow_nck_p ?_)
      | (refine ow_nck_i ?_)
      | (refine ow_nck_f ?_)
      | (refine ow_mki ?_)
      | (refine ow_fa rfl ?_)
      | (refine ow_ext rfl ?_)
      | (refine ow_not rfl ?_)
      | (refine ow_peq_pn rfl ?_)
      | (refine ow_peq_nn rfl ?_)
      | (refine ow_peq_np rfl ?_)
      | (refine ow_ieq_in rfl ?_)
      | (refine ow_ieq_nn rfl ?_)
      | (refine ow_ieq_ni rfl ?_)
      | (refine ow_mkf rfl rfl ?_)
      | (refine ow_box (by first | (simp only [cellsA]; rfl) | rfl) ?_)
      | (refine ow_len rfl ?_)
      | (refine ow_lss_t (by omega) ?_)
      | (refine ow_lss_f (by omega) ?_)
      | (refine ow_leq_t (by omega) ?_)
      | (refine ow_leq_f (by omega) ?_)
      | (refine ow_gtr_t (by omega) ?_)
      | (refine ow_gtr_f (by omega) ?_)
      | (refine ow_geq_t (by omega) ?_)
      | (refine ow_geq_f (by omega) ?_)
      | (refine ow_eql_t (by omega) ?_)
      | (refine ow_eql_f (by omega) ?_)
      | (refine ow_neq_t (by omega) ?_)
      | (refine ow_neq_f (by omega) ?_)
      | (refine ow_add_i rfl (by omega) (by omega) ?_)
      | (refine ow_sub_i rfl (by omega) (by omega) ?_)
      | (refine ow_conv_i (by omega) (by omega) ?_)
      | (refine ow_conv_u (by omega) (by omega) ?_)
      | (refine ow_iaA (by omega) (by omega) rfl ?_)
      | (refine ow_iaS (by omega) (by omega) rfl ?_)
      | (refine ow_ld (by repeat (first | exact upd_same _ _ _ | assumption | refine upd_get (by omega) ?_)) (by first | exact part_all rfl | rfl | (simp only [partA, if_true, List.drop_succ_cons, List.drop_zero, List.take_succ_cons, List.take_zero, List.length_cons, List.length_nil, Nat.reduceAdd, Nat.zero_add]; rfl)) ?_)
      | (refine ow_st (by repeat (first | exact upd_same _ _ _ | assumption | refine upd_get (by omega) ?_)) (by first | (simp only [cellsA]; rfl) | rfl) rfl (by first | (simp; done) | exact Nat.le_refl _) rfl (by first | exact splice_all rfl | (simp only [splice, List.take_succ_cons, List.take_zero, List.drop_succ_cons, List.drop_zero, List.length_cons, List.length_nil, List.cons_append, List.nil_append, Nat.reduceAdd, Nat.zero_add, Nat.add_zero]; rfl)) ?_)
      | (refine ow_build (by simp only [repl, List.append_nil, fillA, List.map, ev, cellsA, splice, List.take_succ_cons, List.take_zero, List.drop_succ_cons, List.drop_zero, List.length_cons, List.length_nil, List.cons_append, List.nil_append, Nat.reduceAdd, Nat.zero_add, Nat.add_zero, true_and, and_self, if_true, Nat.reduceLeDiff, Nat.le_refl]; rfl) ?_)
      | (refine ow_bsl (by simp only [repl, List.append_nil, fillA, List.map, ev, cellsA, splice, List.take_succ_cons, List.take_zero, List.drop_succ_cons, List.drop_zero, List.length_cons, List.length_nil, List.cons_append, List.nil_append, Nat.reduceAdd, Nat.zero_add, Nat.add_zero, true_and, and_self, if_true, Nat.reduceLeDiff, Nat.le_refl]; rfl) ?_)
      | (refine ldR_of (by repeat (first | exact upd_same _ _ _ | assumption | refine upd_get (by omega) ?_)) (by first | exact part_all rfl | rfl | (simp only [partA, if_true, List.drop_succ_cons, List.drop_zero, List.take_succ_cons, List.take_zero, List.length_cons, List.length_nil, Nat.reduceAdd, Nat.zero_add]; rfl)) ?_)
      | (refine dow_ld (by repeat (first | exact upd_same _ _ _ | assumption | refine upd_get (by omega) ?_)) (by first | exact part_all rfl | rfl | (simp only [partA, if_true, List.drop_succ_cons, List.drop_zero, List.take_succ_cons, List.take_zero, List.length_cons, List.length_nil, Nat.reduceAdd, Nat.zero_add]; rfl)) (by simp only [meets, and_true]; (try (repeat' apply And.intro)); all_goals (intro z; simp only [fp_d, fp_f, List.mem_cons, List.not_mem_nil, or_false, false_or, not_false_eq_true, true_and, and_true, Bool.false_eq_true, false_and, not_or]; omega)) ?_)
      | (refine dow_new (by simp only [meets, and_true]; (try (repeat' apply And.intro)); all_goals (intro z; simp only [fp_d, fp_f, List.mem_cons, List.not_mem_nil, or_false, false_or, not_false_eq_true, true_and, and_true, Bool.false_eq_true, false_and, not_or]; omega)) ?_)
      | (refine dow_box (by first | (simp only [cellsA]; rfl) | rfl) (by simp only [meets, and_true]; (try (repeat' apply And.intro)); all_goals (intro z; simp only [fp_d, fp_f, List.mem_cons, List.not_mem_nil, or_false, false_or, not_false_eq_true, true_and, and_true, Bool.false_eq_true, false_and, not_or]; omega)) ?_)
      | (refine dow_st (by repeat (first | exact upd_same _ _ _ | assumption | refine upd_get (by omega) ?_)) (by first | (simp only [cellsA]; rfl) | rfl) rfl (by first | (simp; done) | exact Nat.le_refl _) rfl (by first | exact splice_all rfl | (simp only [splice, List.take_succ_cons, List.take_zero, List.drop_succ_cons, List.drop_zero, List.length_cons, List.length_nil, List.cons_append, List.nil_append, Nat.reduceAdd, Nat.zero_add, Nat.add_zero]; rfl)) (by simp only [meets, and_true]; (try (repeat' apply And.intro)); all_goals (intro z; simp only [fp_d, fp_f, List.mem_cons, List.not_mem_nil, or_false, false_or, not_false_eq_true, true_and, and_true, Bool.false_eq_true, false_and, not_or]; omega)) ?_)
      | (refine dgw_run ?_)
      | (refine dgw_tf ?_)
      | (refine dgw_ft ?_)
      | (refine dgw_un ?_))
    exact ⟨rfl, rfl, rfl⟩
  · repeat (first
      | (refine cal (now_ev T) ?_)
      | (refine cw_t ?_)
      | (refine cw_f ?_)
      | (refine gw_run ?_)
      | (refine gw_tf ?_)
      | (refine gw_ft ?_)
      | (refine gw_un ?_)
      | (refine ow_pick_t ?_)
      | (refine ow_pick_f ?_)
      | (refine ow_new ?_)
      | (refine ow_nck_p ?_)
      | (refine ow_nck_i ?_)
      | (refine ow_nck_f ?_)
      | (refine ow_mki ?_)
      | (refine ow_fa rfl ?_)
      | (refine ow_ext rfl ?_)
      | (refine ow_not rfl ?_)
      | (refine ow_peq_pn rfl ?_)
      | (refine ow_peq_nn rfl ?_)
      | (refine ow_peq_np rfl ?_)
      | (refine ow_ieq_in rfl ?_)
      | (refine ow_ieq_nn rfl ?_)
      | (refine ow_ieq_ni rfl ?_)
      | (refine ow_mkf rfl rfl ?_)
      | (refine ow_box (by first | (simp only [cellsA]; rfl) | rfl) ?_)
      | (refine ow_len rfl ?_)
      | (refine ow_lss_t (by omega) ?_)
      | (refine ow_lss_f (by omega) ?_)
      | (refine ow_leq_t (by omega) ?_)
      | (refine ow_leq_f (by omega) ?_)
      | (refine ow_gtr_t (by omega) ?_)
      | (refine ow_gtr_f (by omega) ?_)
      | (refine ow_geq_t (by omega) ?_)
      | (refine ow_geq_f (by omega) ?_)
      | (refine ow_eql_t (by omega) ?_)
      | (refine ow_eql_f (by omega) ?_)
      | (refine ow_neq_t (by omega) ?_)
      | (refine ow_neq_f (by omega) ?_)
      | (refine ow_add_i rfl (by omega) (by omega) ?_)
      | (refine ow_sub_i rfl (by omega) (by omega) ?_)
      | (refine ow_conv_i (by omega) (by omega) ?_)
      | (refine ow_conv_u (by omega) (by omega) ?_)
      | (refine ow_iaA (by omega) (by omega) rfl ?_)
      | (refine ow_iaS (by omega) (by omega) rfl ?_)
      | (refine ow_ld (by repeat (first | exact upd_same _ _ _ | assumption | refine upd_get (by omega) ?_)) (by first | exact part_all rfl | rfl | (simp only [partA, if_true, List.drop_succ_cons, List.drop_zero, List.take_succ_cons, List.take_zero, List.length_cons, List.length_nil, Nat.reduceAdd, Nat.zero_add]; rfl)) ?_)
      | (refine ow_st (by repeat (first | exact upd_same _ _ _ | assumption | refine upd_get (by omega) ?_)) (by first | (simp only [cellsA]; rfl) | rfl) rfl (by first | (simp; done) | exact Nat.le_refl _) rfl (by first | exact splice_all rfl | (simp only [splice, List.take_succ_cons, List.take_zero, List.drop_succ_cons, List.drop_zero, List.length_cons, List.length_nil, List.cons_append, List.nil_append, Nat.reduceAdd, Nat.zero_add, Nat.add_zero]; rfl)) ?_)
      | (refine ow_build (by simp only [repl, List.append_nil, fillA, List.map, ev, cellsA, splice, List.take_succ_cons, List.take_zero, List.drop_succ_cons, List.drop_zero, List.length_cons, List.length_nil, List.cons_append, List.nil_append, Nat.reduceAdd, Nat.zero_add, Nat.add_zero, true_and, and_self, if_true, Nat.reduceLeDiff, Nat.le_refl]; rfl) ?_)
      | (refine ow_bsl (by simp only [repl, List.append_nil, fillA, List.map, ev, cellsA, splice, List.take_succ_cons, List.take_zero, List.drop_succ_cons, List.drop_zero, List.length_cons, List.length_nil, List.cons_append, List.nil_append, Nat.reduceAdd, Nat.zero_add, Nat.add_zero, true_and, and_self, if_true, Nat.reduceLeDiff, Nat.le_refl]; rfl) ?_)
      | (refine ldR_of (by repeat (first | exact upd_same _ _ _ | assumption | refine upd_get (by omega) ?_)) (by first | exact part_all rfl | rfl | (simp only [partA, if_true, List.drop_succ_cons, List.drop_zero, List.take_succ_cons, List.take_zero, List.length_cons, List.length_nil, Nat.reduceAdd, Nat.zero_add]; rfl)) ?_)
      | (refine dow_ld (by repeat (first | exact upd_same _ _ _ | assumption | refine upd_get (by omega) ?_)) (by first | exact part_all rfl | rfl | (simp only [partA, if_true, List.drop_succ_cons, List.drop_zero, List.take_succ_cons, List.take_zero, List.length_cons, List.length_nil, Nat.reduceAdd, Nat.zero_add]; rfl)) (by simp only [meets, and_true]; (try (repeat' apply And.intro)); all_goals (intro z; simp only [fp_d, fp_f, List.mem_cons, List.not_mem_nil, or_false, false_or, not_false_eq_true, true_and, and_true, Bool.false_eq_true, false_and, not_or]; omega)) ?_)
      | (refine dow_new (by simp only [meets, and_true]; (try (repeat' apply And.intro)); all_goals (intro z; simp only [fp_d, fp_f, List.mem_cons, List.not_mem_nil, or_false, false_or, not_false_eq_true, true_and, and_true, Bool.false_eq_true, false_and, not_or]; omega)) ?_)
      | (refine dow_box (by first | (simp only [cellsA]; rfl) | rfl) (by simp only [meets, and_true]; (try (repeat' apply And.intro)); all_goals (intro z; simp only [fp_d, fp_f, List.mem_cons, List.not_mem_nil, or_false, false_or, not_false_eq_true, true_and, and_true, Bool.false_eq_true, false_and, not_or]; omega)) ?_)
      | (refine dow_st (by repeat (first | exact upd_same _ _ _ | assumption | refine upd_get (by omega) ?_)) (by first | (simp only [cellsA]; rfl) | rfl) rfl (by first | (simp; done) | exact Nat.le_refl _) rfl (by first | exact splice_all rfl | (simp only [splice, List.take_succ_cons, List.take_zero, List.drop_succ_cons, List.drop_zero, List.length_cons, List.length_nil, List.cons_append, List.nil_append, Nat.reduceAdd, Nat.zero_add, Nat.add_zero]; rfl)) (by simp only [meets, and_true]; (try (repeat' apply And.intro)); all_goals (intro z; simp only [fp_d, fp_f, List.mem_cons, List.not_mem_nil, or_false, false_or, not_false_eq_true, true_and, and_true, Bool.false_eq_true, false_and, not_or]; omega)) ?_)
      | (refine dgw_run ?_)
      | (refine dgw_tf ?_)
      | (refine dgw_ft ?_)
      | (refine dgw_un ?_))
    exact ⟨rfl, rfl, rfl⟩
theorem EpAt.put (T : EpAt h t fb hb C m F H) (H' : Nat → Nat) : EpAt (upd h hb (some (.cells 1 (enc heardRow C H')))) t fb hb C m F H' :=
  ⟨by rw [upd_ne _ _ T.ne1.symm]; exact T.ct, fun hm => by rw [upd_ne _ _ (T.ne2 hm).1]; exact T.cf hm, by rw [upd_same], T.ne1, T.ne2, T.lim, T.lim2⟩
theorem EpAt.put_good (g : Good n h) (T : EpAt h t fb hb C m F H) (H' : Nat → Nat) : Good n (upd h hb (some (.cells 1 (enc heardRow C H')))) := by
  refine g.upd (g.lt T.cb) ?_
  show belowL n (enc heardRow C H') = true
  exact belowL_enc fun i _ => rfl

/-- New epochs. -/
def newEp (h : Heap) (n C : Nat) : Heap := upd (upd h n (some (.cells 1 (enc heardRow C fun _ => 0)))) (n + 1) (some (.cells 0 [.nilsl, .sl n 0 0 C (some C)]))
theorem newEp_at (h : Heap) (n C : Nat) (hC : C ≤ 8) (F : Nat → Nat) : EpAt (newEp h n C) (n + 1) 0 n C 0 F fun _ => 0 :=
  ⟨by unfold newEp; rw [upd_same]; rfl, fun h => absurd rfl h, by unfold newEp; rw [upd_ne _ _ (by omega), upd_same], by omega, fun h => absurd rfl h, by omega, hC⟩
theorem newEp_good (g : Good n h) (C : Nat) : Good (n + 2) (newEp h n C) := by
  unfold newEp
  refine Good.upd (Good.upd (g.mono (by omega)) (by omega) ?_) (by omega) ?_
  · show belowL (n + 2) (enc heardRow C fun _ => 0) = true
    exact belowL_enc fun i _ => rfl
  · simp [belowB, belowL, below]
end
end Go.Proofs.As0
/- Functions of the program, as they are to be shown: printed by Gen.lean. -/
namespace Go.Proofs.As0
open Go Go.Eng
/-! ### 4: messuage/messuagelaw11.EpochAck -/
/-- The loop 0's body. -/
noncomputable def B4_0 (κ : KC) (g : Nat → AV) (h : Heap) (n : Nat) : Prop :=
 opW Tryz.prog (.bin .lss (.c (g 9)) (.c (g 0))) h n fun t38 h n =>
 cndW t38
  (callW Tryz.prog 29 [(g 8), (.int .i64 0)] h n fun t42 h n =>
  opW Tryz.prog (.bin .add (.c (g 9)) (.c (.int .i64 1))) h n fun t40 h n =>
  κ .normal (tl 101 (ug g [(9, t40), (40, t40), (39, (g 9)), (42, t42), (41, (g 8)), (38, t38), (37, (g 0)), (36, (g 9))])) h n)
  (κ (.exit 0) (tl 101 (ug g [(38, t38), (37, (g 0)), (36, (g 9))])) h n)
theorem B4_0_eq (κ : KC) (g : Nat → AV) (h : Heap) (n : Nat) : wpC Tryz.prog (cAt [1, 1, 1, 1, 1, 1, 0, 1, 0, 0] (bodyOf Tryz.prog 4)) κ (tl 101 g) h n = B4_0 κ g h n := by kernel_rfl
noncomputable def k4_0 (κ : KC) : KC := thenK (fun a h n => wpC Tryz.prog (cAt [1, 1, 1, 1, 1, 1, 1] (bodyOf Tryz.prog 4)) κ a h n) κ
noncomputable def k4_1 (κ : KC) : KC := thenK (fun a h n => wpC Tryz.prog (cAt [1, 1, 1, 1, 1, 1, 1, 1, 1] (bodyOf Tryz.prog 4)) κ a h n) κ
/-- Behind the loop 0, by its exit 0. -/
noncomputable def X4_0_0 (K : KT) (g : Nat → AV) (h : Heap) (n : Nat) : Prop :=
 opW Tryz.prog (.conv .u64 (.c (g 1))) h n fun t46 h n =>
 callW Tryz.prog 30 [(g 8), (g 2), t46] h n fun t47 h n =>
 opW Tryz.prog (.un .not (.c t47)) h n fun t48 h n =>
 cndW t48
  (K (.bool false) h n)
  (loopW Tryz.prog (cAt [1, 1, 1, 1, 1, 1, 1, 1, 0, 1, 0, 0] (bodyOf Tryz.prog 4)) ((blockK 2 (k4_1 (retK Tryz.prog (resOf Tryz.prog 4) K)))) (tl 101 (ug g [(10, (.int .i64 1)), (48, t48), (47, t47), (46, t46), (45, (g 1)), (44, (g 2)), (43, (g 8))])) h n)
theorem X4_0_0_eq (K : KT) (g : Nat → AV) (h : Heap) (n : Nat) : (blockK 0 (k4_0 (retK Tryz.prog (resOf Tryz.prog 4) K))) (.exit 0) (tl 101 g) h n = X4_0_0 K g h n := by kernel_rfl
/-- The loop 1's body. -/
noncomputable def B4_1 (κ : KC) (g : Nat → AV) (h : Heap) (n : Nat) : Prop :=
 opW Tryz.prog (.bin .leq (.c (g 10)) (.c (g 0))) h n fun t51 h n =>
 cndW t51
  (opW Tryz.prog (.conv .u64 (.c (g 10))) h n fun t56 h n =>
  callW Tryz.prog 31 [(g 8), t56] h n fun t57 h n =>
  opW Tryz.prog (.bin .leq (.c (g 10)) (.c (g 1))) h n fun t60 h n =>
  cndW t60
   (opW Tryz.prog (.len (.c t57)) h n fun t62 h n =>
   opW Tryz.prog (.bin .neq (.c t62) (.c (.int .i64 2))) h n fun t64 h n =>
   grdW t64 false (fun k => k (g 8) h n) h n fun t66 h n =>
   grdW t64 false (fun k => k (g 10) h n) h n fun t67 h n =>
   grdW t64 false (opW Tryz.prog (.conv .u64 (.c t67)) h n) h n fun t68 h n =>
   grdW t64 false (callW Tryz.prog 32 [t66, t68] h n) h n fun t69 h n =>
   opW Tryz.prog (.pick (.c t64) (.c (.bool true)) (.c t69)) h n fun t70 h n =>
   cndW t70
    (κ .ret (tl 101 (ug g [(6, (.bool false)), (70, t70), (69, t69), (68, t68), (67, t67), (66, t66), (65, t64), (64, t64), (63, (.int .i64 2)), (62, t62), (61, t57), (12, (.int .i64 2)), (60, t60), (59, (g 1)), (58, (g 10)), (11, t57), (57, t57), (56, t56), (55, (g 10)), (54, (g 8)), (51, t51), (50, (g 0)), (49, (g 10))])) h n)
    (opW Tryz.prog (.bin .add (.c (g 10)) (.c (.int .i64 1))) h n fun t53 h n =>
    κ .normal (tl 101 (ug g [(10, t53), (53, t53), (52, (g 10)), (70, t70), (69, t69), (68, t68), (67, t67), (66, t66), (65, t64), (64, t64), (63, (.int .i64 2)), (62, t62), (61, t57), (12, (.int .i64 2)), (60, t60), (59, (g 1)), (58, (g 10)), (11, t57), (57, t57), (56, t56), (55, (g 10)), (54, (g 8)), (51, t51), (50, (g 0)), (49, (g 10))])) h n))
   (opW Tryz.prog (.len (.c t57)) h n fun t62_0 h n =>
   opW Tryz.prog (.bin .neq (.c t62_0) (.c (.int .i64 3))) h n fun t64_1 h n =>
   grdW t64_1 false (fun k => k (g 8) h n) h n fun t66_2 h n =>
   grdW t64_1 false (fun k => k (g 10) h n) h n fun t67_3 h n =>
   grdW t64_1 false (opW Tryz.prog (.conv .u64 (.c t67_3)) h n) h n fun t68_4 h n =>
   grdW t64_1 false (callW Tryz.prog 32 [t66_2, t68_4] h n) h n fun t69_5 h n =>
   opW Tryz.prog (.pick (.c t64_1) (.c (.bool true)) (.c t69_5)) h n fun t70_6 h n =>
   cndW t70_6
    (κ .ret (tl 101 (ug g [(6, (.bool false)), (70, t70_6), (69, t69_5), (68, t68_4), (67, t67_3), (66, t66_2), (65, t64_1), (64, t64_1), (63, (.int .i64 3)), (62, t62_0), (61, t57), (60, t60), (59, (g 1)), (58, (g 10)), (12, (.int .i64 3)), (11, t57), (57, t57), (56, t56), (55, (g 10)), (54, (g 8)), (51, t51), (50, (g 0)), (49, (g 10))])) h n)
    (opW Tryz.prog (.bin .add (.c (g 10)) (.c (.int .i64 1))) h n fun t53_7 h n =>
    κ .normal (tl 101 (ug g [(10, t53_7), (53, t53_7), (52, (g 10)), (70, t70_6), (69, t69_5), (68, t68_4), (67, t67_3), (66, t66_2), (65, t64_1), (64, t64_1), (63, (.int .i64 3)), (62, t62_0), (61, t57), (60, t60), (59, (g 1)), (58, (g 10)), (12, (.int .i64 3)), (11, t57), (57, t57), (56, t56), (55, (g 10)), (54, (g 8)), (51, t51), (50, (g 0)), (49, (g 10))])) h n)))
  (κ (.exit 2) (tl 101 (ug g [(51, t51), (50, (g 0)), (49, (g 10))])) h n)
theorem B4_1_eq (κ : KC) (g : Nat → AV) (h : Heap) (n : Nat) : wpC Tryz.prog (cAt [1, 1, 1, 1, 1, 1, 1, 1, 0, 1, 0, 0] (bodyOf Tryz.prog 4)) κ (tl 101 g) h n = B4_1 κ g h n := by kernel_rfl
noncomputable def k4_2 (κ : KC) : KC := thenK (fun a h n => wpC Tryz.prog (cAt [1, 1, 1, 1, 1, 1, 1, 1, 1, 1] (bodyOf Tryz.prog 4)) κ a h n) κ
/-- Behind the loop 1, by its exit 2. -/
noncomputable def X4_1_2 (K : KT) (g : Nat → AV) (h : Heap) (n : Nat) : Prop :=
 loopW Tryz.prog (cAt [1, 1, 1, 1, 1, 1, 1, 1, 1, 0, 1, 0, 0] (bodyOf Tryz.prog 4)) ((blockK 4 (k4_2 (retK Tryz.prog (resOf Tryz.prog 4) K)))) (tl 101 (ug g [(13, (.int .i64 1))])) h n
theorem X4_1_2_eq (K : KT) (g : Nat → AV) (h : Heap) (n : Nat) : (blockK 2 (k4_1 (retK Tryz.prog (resOf Tryz.prog 4) K))) (.exit 2) (tl 101 g) h n = X4_1_2 K g h n := by kernel_rfl
theorem X4_1_ret_eq (K : KT) (g : Nat → AV) (h : Heap) (n : Nat) : (blockK 2 (k4_1 (retK Tryz.prog (resOf Tryz.prog 4) K))) .ret (tl 101 g) h n = (K (g 6) h n) := by kernel_rfl
/-- The loop 2's body. -/
noncomputable def B4_2 (κ : KC) (g : Nat → AV) (h : Heap) (n : Nat) : Prop :=
 opW Tryz.prog (.bin .leq (.c (g 13)) (.c (.int .i64 3))) h n fun t72 h n =>
 cndW t72
  (opW Tryz.prog (.conv .u64 (.c (g 0))) h n fun t78 h n =>
  callW Tryz.prog 30 [(g 8), (g 13), t78] h n fun t79 h n =>
  opW Tryz.prog (.bin .add (.c (g 13)) (.c (.int .i64 1))) h n fun t74 h n =>
  κ .normal (tl 101 (ug g [(13, t74), (74, t74), (73, (g 13)), (79, t79), (78, t78), (77, (g 0)), (76, (g 13)), (75, (g 8)), (72, t72), (71, (g 13))])) h n)
  (κ (.exit 4) (tl 101 (ug g [(72, t72), (71, (g 13))])) h n)
theorem B4_2_eq (κ : KC) (g : Nat → AV) (h : Heap) (n : Nat) : wpC Tryz.prog (cAt [1, 1, 1, 1, 1, 1, 1, 1, 1, 0, 1, 0, 0] (bodyOf Tryz.prog 4)) κ (tl 101 g) h n = B4_2 κ g h n := by kernel_rfl
/-- Behind the loop 2, by its exit 4. -/
noncomputable def X4_2_4 (K : KT) (g : Nat → AV) (h : Heap) (n : Nat) : Prop :=
 callW Tryz.prog 32 [(g 8), (.int .u64 1)] h n fun t81 h n =>
 grdW t81 true (fun k => k (g 8) h n) h n fun t83 h n =>
 grdW t81 true (fun k => k (g 0) h n) h n fun t84 h n =>
 grdW t81 true (opW Tryz.prog (.conv .u64 (.c t84)) h n) h n fun t85 h n =>
 grdW t81 true (callW Tryz.prog 32 [t83, t85] h n) h n fun t86 h n =>
 opW Tryz.prog (.pick (.c t81) (.c t86) (.c (.bool false))) h n fun t87 h n =>
 grdW t87 true (fun k => k (g 8) h n) h n fun t89 h n =>
 grdW t87 true (fun k => k (g 0) h n) h n fun t90 h n =>
 grdW t87 true (opW Tryz.prog (.bin .add (.c t90) (.c (.int .i64 1))) h n) h n fun t91 h n =>
 grdW t87 true (opW Tryz.prog (.conv .u64 (.c t91)) h n) h n fun t92 h n =>
 grdW t87 true (callW Tryz.prog 32 [t89, t92] h n) h n fun t93 h n =>
 grdW t87 true (opW Tryz.prog (.un .not (.c t93)) h n) h n fun t94 h n =>
 opW Tryz.prog (.pick (.c t87) (.c t94) (.c (.bool false))) h n fun t95 h n =>
 grdW t95 true (fun k => k (g 8) h n) h n fun t97 h n =>
 grdW t95 true (callW Tryz.prog 32 [t97, (.int .u64 0)] h n) h n fun t98 h n =>
 grdW t95 true (opW Tryz.prog (.un .not (.c t98)) h n) h n fun t99 h n =>
 opW Tryz.prog (.pick (.c t95) (.c t99) (.c (.bool false))) h n fun t100 h n =>
 K t100 h n
theorem X4_2_4_eq (K : KT) (g : Nat → AV) (h : Heap) (n : Nat) : (blockK 4 (k4_2 (retK Tryz.prog (resOf Tryz.prog 4) K))) (.exit 4) (tl 101 g) h n = X4_2_4 K g h n := by kernel_rfl
noncomputable def W4 (t0 t1 t2 : AV) (h : Heap) (n : Nat) (K : KT) : Prop :=
 callW Tryz.prog 25 [] h n fun t14 h n =>
 opW Tryz.prog (.un .not (.c t14)) h n fun t16 h n =>
 cndW t16
  (K (.bool false) h n)
  (opW Tryz.prog (.bin .rem (.c t0) (.c (.int .i64 9))) h n fun t18 h n =>
  opW Tryz.prog (.bin .add (.c t18) (.c (.int .i64 9))) h n fun t19 h n =>
  opW Tryz.prog (.bin .rem (.c t19) (.c (.int .i64 9))) h n fun t20 h n =>
  opW Tryz.prog (.bin .add (.c (.int .i64 1)) (.c t20)) h n fun t21 h n =>
  opW Tryz.prog (.bin .rem (.c t2) (.c (.int .i64 3))) h n fun t23 h n =>
  opW Tryz.prog (.bin .add (.c t23) (.c (.int .i64 3))) h n fun t24 h n =>
  opW Tryz.prog (.bin .rem (.c t24) (.c (.int .i64 3))) h n fun t25 h n =>
  opW Tryz.prog (.bin .add (.c (.int .i64 1)) (.c t25)) h n fun t26 h n =>
  opW Tryz.prog (.bin .rem (.c t1) (.c t21)) h n fun t29 h n =>
  opW Tryz.prog (.bin .add (.c t29) (.c t21)) h n fun t31 h n =>
  opW Tryz.prog (.bin .rem (.c t31) (.c t21)) h n fun t33 h n =>
  opW Tryz.prog (.bin .add (.c (.int .i64 1)) (.c t33)) h n fun t34 h n =>
  callW Tryz.prog 28 [(.int .i64 4)] h n fun t35 h n =>
  loopW Tryz.prog (cAt [1, 1, 1, 1, 1, 1, 0, 1, 0, 0] (bodyOf Tryz.prog 4)) ((blockK 0 (k4_0 (retK Tryz.prog (resOf Tryz.prog 4) K)))) (tl 101 (gl [t21, t34, t26, undefA, undefA, undefA, (.bool false), t14, t35, (.int .i64 0), undefA, undefA, undefA, undefA, t14, t14, t16, t0, t18, t19, t20, t21, t2, t23, t24, t25, t26, t1, t21, t29, t21, t31, t21, t33, t34, t35])) h n)
theorem W4_eq (t0 t1 t2 : AV) (h : Heap) (n : Nat) (K : KT) : wpF Tryz.prog 4 [t0, t1, t2] h n K = W4 t0 t1 t2 h n K := by kernel_rfl
theorem W4_ok {t0 t1 t2 : AV} {h : Heap} {n : Nat} {K : KT} (hk : W4 t0 t1 t2 h n K) : callW Tryz.prog 4 [t0, t1, t2] h n K := callW_of_wpF mixed (by rw [W4_eq]; exact hk)
end Go.Proofs.As0
