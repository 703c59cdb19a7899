/- CapsChain: the law. -/
import Derived.Test.YthbbncgbbkcdgaaGreatDoorT9
import Derived.Test.YthbbncgbbkcdgaaGreatDoorT17
set_option linter.unusedSimpArgs false
set_option linter.unusedVariables false
set_option linter.unnecessarySimpa false
namespace Go.Proofs.As0
open Go Go.Eng
attribute [local irreducible] opW callW cvW invW grdW cndW ldR dopW dcallW dcvW dgrdW loopW
attribute [local irreducible] wpC

theorem goodE' : Go.Eng.Good 4 hE := ⟨Nat.le_refl _, hE_below 4 (by decide)⟩

/-- The chain of i. -/
def chL (i q : Nat) : Cap := if q % 8 < i ∧ q / 8 = q % 8 % 2 then (if q % 8 = 0 then ⟨3, 3, -1, 0⟩ else ⟨3, 3, (((q % 8 - 1) % 2 : Nat) : Int), ((q % 8 - 1 : Nat) : Int)⟩) else cap0

theorem ch_ranked (i : Nat) : Ranked 2 (chL i) (fun q => q % 8) := by
  refine ⟨fun q _ => by omega, fun q hq hr he => ?_⟩
  unfold chL at hr he ⊢
  by_cases h1 : q % 8 < i ∧ q / 8 = q % 8 % 2
  · rw [if_pos h1] at hr he ⊢
    by_cases h2 : q % 8 = 0
    · rw [if_pos h2] at he
      exact absurd he (by decide)
    · rw [if_neg h2]
      dsimp only
      rw [isC_iff]
      unfold qi
      omega
  · rw [if_neg h1] at hr
    exact absurd rfl hr

theorem ch_root : rootS 2 (fun _ => cap0) 0 0 3 = (0, chL 1) := by
  have : rootS 2 (fun _ => cap0) 0 0 3 = (0, setF (fun _ => cap0) (qi 0 0) ⟨3, 3, -1, 0⟩) := by
    unfold rootS
    rw [if_neg (by decide), if_neg (by decide)]
  rw [this]
  have : setF (fun _ => cap0) (qi 0 0) ⟨3, 3, -1, 0⟩ = chL 1 := by
    funext q
    unfold setF chL
    rw [show qi 0 0 = 0 from rfl]
    by_cases h : q = 0
    · subst h; rfl
    · rw [if_neg h, if_neg (by omega)]
  rw [this]

theorem ch_derive (i : Nat) (h1 : 1 ≤ i) (hi : i < 8) : deriveS 2 (chL i) (((i : Int) - 1) % 2) ((i : Int) - 1) ((i : Int) % 2) (i : Int) 3 = (0, chL (i + 1)) := by
  have hc : i = 1 ∨ i = 2 ∨ i = 3 ∨ i = 4 ∨ i = 5 ∨ i = 6 ∨ i = 7 := by omega
  have c1 : isC 2 (((i : Int) - 1) % 2) ((i : Int) - 1) = true := by rw [isC_iff]; rcases hc with rfl | rfl | rfl | rfl | rfl | rfl | rfl <;> decide
  have c2 : isC 2 ((i : Int) % 2) (i : Int) = true := by rw [isC_iff]; rcases hc with rfl | rfl | rfl | rfl | rfl | rfl | rfl <;> decide
  have q1 : qi (((i : Int) - 1) % 2) ((i : Int) - 1) = 8 * ((i - 1) % 2) + (i - 1) := by rcases hc with rfl | rfl | rfl | rfl | rfl | rfl | rfl <;> rfl
  have q2 : qi ((i : Int) % 2) (i : Int) = 8 * (i % 2) + i := by rcases hc with rfl | rfl | rfl | rfl | rfl | rfl | rfl <;> rfl
  have l1 : (chL i (8 * ((i - 1) % 2) + (i - 1))).r = 3 ∧ (chL i (8 * ((i - 1) % 2) + (i - 1))).f = 3 := by
    rcases hc with rfl | rfl | rfl | rfl | rfl | rfl | rfl <;> exact ⟨by decide +kernel, by decide +kernel⟩
  have l2 : chL i (8 * (i % 2) + i) = cap0 := by rcases hc with rfl | rfl | rfl | rfl | rfl | rfl | rfl <;> rfl
  unfold deriveS
  rw [q1, q2, l1.1, l1.2, l2, if_neg (by simp [c1, c2]; decide), if_neg (by decide), if_neg (by decide), if_neg (by decide)]
  have : setF (chL i) (8 * (i % 2) + i) ⟨3, 3, ((i : Int) - 1) % 2, (i : Int) - 1⟩ = chL (i + 1) := by
    funext q
    unfold setF
    by_cases h2 : q = 8 * (i % 2) + i
    · subst h2
      rw [if_pos rfl]
      rcases hc with rfl | rfl | rfl | rfl | rfl | rfl | rfl <;> rfl
    · rw [if_neg h2]
      unfold chL
      by_cases h3 : q % 8 < i ∧ q / 8 = q % 8 % 2
      · rw [if_pos h3, if_pos (c := q % 8 < i + 1 ∧ q / 8 = q % 8 % 2) ⟨by omega, h3.2⟩]
      · rw [if_neg h3, if_neg (c := q % 8 < i + 1 ∧ q / 8 = q % 8 % 2) (fun h4 => h3 ⟨?_, h4.2⟩)]
        have := h4.1; have := h4.2
        rcases hc with rfl | rfl | rfl | rfl | rfl | rfl | rfl <;> omega
  rw [this]

def chR (n a : Nat) : Nat → Cap := wipeL (chL n) (revokeL 2 (chL n) ((a : Int) % 2) (a : Int))
def chD (n a : Nat) : Nat → Cap := wipeL (chL n) (dropL 2 (chL n) ((a : Int) % 2) (a : Int))
def f3 (L : Nat → Cap) (q : Nat) : Bool := decide ((L q).f = 3)
set_option maxRecDepth 100000 in
theorem ch_facts : ∀ n, n < 8 → ∀ a, a < n → (allN (chL n) (belowH (chL n) 0 0) (8 * 2)).length + 1 = n ∧ (allN (chL n) (f3 (chL n)) (8 * 2)).length = n ∧ lookS 2 (chL n) ((a : Int) % 2) (a : Int) = 0 ∧
    (revokeL 2 (chL n) ((a : Int) % 2) (a : Int)).length + a + 1 = n ∧ (allN (chR n a) (f3 (chR n a)) (8 * 2)).length = a + 1 ∧
    (dropL 2 (chL n) ((a : Int) % 2) (a : Int)).length + a = n ∧ (allN (chD n a) (f3 (chD n a)) (8 * 2)).length = a ∧
    (∀ i, i < n → (at2 2 (chR n a) ((i : Int) % 2) (i : Int)).2 = decide (i < a + 1) ∧ (at2 2 (chD n a) ((i : Int) % 2) (i : Int)).2 = decide (i < a)) := by
  decide +kernel

set_option maxRecDepth 20000 in
/-- The end: which are there, how many. -/
theorem ch_tail {h : Heap} {n1 t B n z : Nat} {L : Nat → Cap} (g : Go.Eng.Good n1 h) (T : TreeAt h t B 2 L) (hn : n < 8) (hz : z ≤ n) (hat : ∀ i, i < n → (at2 2 L ((i : Int) % 2) (i : Int)).2 = decide (i < z)) (hof : (allN L (f3 L) (8 * 2)).length = z)
    (gg : Nat → AV) (e0 : gg 0 = .int .i64 (n : Int)) (e8 : gg 8 = .ptr t 0) (e12 : gg 12 = .int .i64 ((n : Int) - (z : Int))) (e15 : gg 15 = .int .i64 0) :
    loopW Tryz.prog (cAt [1, 1, 1, 1, 1, 1, 1, 1, 1, 1, 1, 1, 1, 0, 1, 0, 0] (bodyOf Tryz.prog 11)) (blockK 4 (k11_3 (retK Tryz.prog (resOf Tryz.prog 11) fun v _ _ => v = .bool true))) (tl 143 gg) h n1 := by
  refine loopW_inv mixed (fun d aa h1 n2 => ∃ gg i, aa = tl 143 gg ∧ gg 0 = .int .i64 (n : Int) ∧ gg 8 = .ptr t 0 ∧ gg 12 = .int .i64 ((n : Int) - (z : Int)) ∧ gg 15 = .int .i64 ((i : Nat) : Int) ∧ i ≤ n ∧ d = n - i ∧ Go.Eng.Good n2 h1 ∧ n1 ≤ n2 ∧ ∀ x, x < n1 → h1 x = h x) (d := n) ?_
    ⟨gg, 0, rfl, e0, e8, e12, e15, by omega, rfl, g, Nat.le_refl _, fun _ _ => rfl⟩
  intro d aa h1 n2 hI
  obtain ⟨gg, i, haa, e0, e8, e12, e15, hi, hd, gd, hn2, old⟩ := hI
  subst haa
  have T1 := T.keep g old
  rw [B11_2_eq]
  unfold B11_2
  rw [e0, e8, e12, e15]
  by_cases hlt : i < n
  · have hv := hat i hlt
    by_cases hz1 : i < z
    · rw [decide_eq_true hz1] at hv
      repeat (first
        | (refine cal (at_ev gd T1 ((i : Int) % 2) (i : Int) _) ?_)
        | (rw [hv])
        | (refine ow_rem_nn (by omega) (by omega) ?_)
        | (refine ow_beq_val (r := false) rfl ?_)
        | (refine cw_t ?_)
        | (refine cw_f ?_)
        | (refine gw_run ?_)
        | (refine gw_tf ?_)
        | (refine gw_ft ?_)
        | (refine gw_un ?_)
        | (refine ow_pick_t ?_)
        | (refine ow_pick_f ?_)
        | (refine ow_new ?_)
        | (refine ow_nck_p ?_)
        | (refine ow_nck_i ?_)
        | (refine ow_nck_f ?_)
        | (refine ow_mki ?_)
        | (refine ow_fa rfl ?_)
        | (refine ow_ext rfl ?_)
        | (refine ow_not rfl ?_)
        | (refine ow_peq_pn rfl ?_)
        | (refine ow_peq_nn rfl ?_)
        | (refine ow_peq_np rfl ?_)
        | (refine ow_ieq_in rfl ?_)
        | (refine ow_ieq_nn rfl ?_)
        | (refine ow_ieq_ni rfl ?_)
        | (refine ow_mkf rfl rfl ?_)
        | (refine ow_box (by first | (simp only [cellsA]; rfl) | rfl) ?_)
        | (refine ow_len rfl ?_)
        | (refine ow_lss_t (by omega) ?_)
        | (refine ow_lss_f (by omega) ?_)
        | (refine ow_leq_t (by omega) ?_)
        | (refine ow_leq_f (by omega) ?_)
        | (refine ow_gtr_t (by omega) ?_)
        | (refine ow_gtr_f (by omega) ?_)
        | (refine ow_geq_t (by omega) ?_)
        | (refine ow_geq_f (by omega) ?_)
        | (refine ow_eql_t (by omega) ?_)
        | (refine ow_eql_f (by omega) ?_)
        | (refine ow_neq_t (by omega) ?_)
        | (refine ow_neq_f (by omega) ?_)
        | (refine ow_add_i rfl (by omega) (by omega) ?_)
        | (refine ow_sub_i rfl (by omega) (by omega) ?_)
        | (refine ow_conv_i (by omega) (by omega) ?_)
        | (refine ow_conv_u (by omega) (by omega) ?_)
        | (refine ow_iaA (by omega) (by omega) rfl ?_)
        | (refine ow_iaS (by omega) (by omega) rfl ?_)
        | (refine ow_ld (by repeat (first | exact upd_same _ _ _ | assumption | refine upd_get (by omega) ?_)) (by first | exact part_all rfl | rfl | (simp only [partA, if_true, List.drop_succ_cons, List.drop_zero, List.take_succ_cons, List.take_zero, List.length_cons, List.length_nil, Nat.reduceAdd, Nat.zero_add]; rfl)) ?_)
        | (refine ow_st (by repeat (first | exact upd_same _ _ _ | assumption | refine upd_get (by omega) ?_)) (by first | (simp only [cellsA]; rfl) | rfl) rfl (by first | (simp; done) | exact Nat.le_refl _) rfl (by first | exact splice_all rfl | (simp only [splice, List.take_succ_cons, List.take_zero, List.drop_succ_cons, List.drop_zero, List.length_cons, List.length_nil, List.cons_append, List.nil_append, Nat.reduceAdd, Nat.zero_add, Nat.add_zero]; rfl)) ?_)
        | (refine ow_build (by simp only [repl, List.append_nil, fillA, List.map, ev, cellsA, splice, List.take_succ_cons, List.take_zero, List.drop_succ_cons, List.drop_zero, List.length_cons, List.length_nil, List.cons_append, List.nil_append, Nat.reduceAdd, Nat.zero_add, Nat.add_zero, true_and, and_self, if_true, Nat.reduceLeDiff, Nat.le_refl]; rfl) ?_)
        | (refine ow_bsl (by simp only [repl, List.append_nil, fillA, List.map, ev, cellsA, splice, List.take_succ_cons, List.take_zero, List.drop_succ_cons, List.drop_zero, List.length_cons, List.length_nil, List.cons_append, List.nil_append, Nat.reduceAdd, Nat.zero_add, Nat.add_zero, true_and, and_self, if_true, Nat.reduceLeDiff, Nat.le_refl]; rfl) ?_)
        | (refine ldR_of (by repeat (first | exact upd_same _ _ _ | assumption | refine upd_get (by omega) ?_)) (by first | exact part_all rfl | rfl | (simp only [partA, if_true, List.drop_succ_cons, List.drop_zero, List.take_succ_cons, List.take_zero, List.length_cons, List.length_nil, Nat.reduceAdd, Nat.zero_add]; rfl)) ?_)
        | (refine dow_ld (by repeat (first | exact upd_same _ _ _ | assumption | refine upd_get (by omega) ?_)) (by first | exact part_all rfl | rfl | (simp only [partA, if_true, List.drop_succ_cons, List.drop_zero, List.take_succ_cons, List.take_zero, List.length_cons, List.length_nil, Nat.reduceAdd, Nat.zero_add]; rfl)) (by simp only [meets, and_true]; (try (repeat' apply And.intro)); all_goals (intro z; simp only [fp_d, fp_f, List.mem_cons, List.not_mem_nil, or_false, false_or, not_false_eq_true, true_and, and_true, Bool.false_eq_true, false_and, not_or]; omega)) ?_)
        | (refine dow_new (by simp only [meets, and_true]; (try (repeat' apply And.intro)); all_goals (intro z; simp only [fp_d, fp_f, List.mem_cons, List.not_mem_nil, or_false, false_or, not_false_eq_true, true_and, and_true, Bool.false_eq_true, false_and, not_or]; omega)) ?_)
        | (refine dow_box (by first | (simp only [cellsA]; rfl) | rfl) (by simp only [meets, and_true]; (try (repeat' apply And.intro)); all_goals (intro z; simp only [fp_d, fp_f, List.mem_cons, List.not_mem_nil, or_false, false_or, not_false_eq_true, true_and, and_true, Bool.false_eq_true, false_and, not_or]; omega)) ?_)
        | (refine dow_st (by repeat (first | exact upd_same _ _ _ | assumption | refine upd_get (by omega) ?_)) (by first | (simp only [cellsA]; rfl) | rfl) rfl (by first | (simp; done) | exact Nat.le_refl _) rfl (by first | exact splice_all rfl | (simp only [splice, List.take_succ_cons, List.take_zero, List.drop_succ_cons, List.drop_zero, List.length_cons, List.length_nil, List.cons_append, List.nil_append, Nat.reduceAdd, Nat.zero_add, Nat.add_zero]; rfl)) (by simp only [meets, and_true]; (try (repeat' apply And.intro)); all_goals (intro z; simp only [fp_d, fp_f, List.mem_cons, List.not_mem_nil, or_false, false_or, not_false_eq_true, true_and, and_true, Bool.false_eq_true, false_and, not_or]; omega)) ?_)
        | (refine dgw_run ?_)
        | (refine dgw_tf ?_)
        | (refine dgw_ft ?_)
        | (refine dgw_un ?_))
      refine ⟨n - (i + 1), by omega, _, i + 1, rfl, e0, e8, e12, rfl, by omega, rfl, (by repeat (first | exact Good.mono (by assumption) (by omega) | (refine Good.upd ?_ (by omega) (by first | rfl | (refine belowL_mono ?_ _ (by assumption); omega) | (simp [belowB, belowL, below]; (try omega)))))), by omega, fun x hx => by repeat (first | exact old x hx | refine upd_get (by omega) ?_)⟩
    · rw [decide_eq_false hz1] at hv
      repeat (first
        | (refine cal (at_ev gd T1 ((i : Int) % 2) (i : Int) _) ?_)
        | (rw [hv])
        | (refine ow_rem_nn (by omega) (by omega) ?_)
        | (refine ow_beq_val (r := false) rfl ?_)
        | (refine cw_t ?_)
        | (refine cw_f ?_)
        | (refine gw_run ?_)
        | (refine gw_tf ?_)
        | (refine gw_ft ?_)
        | (refine gw_un ?_)
        | (refine ow_pick_t ?_)
        | (refine ow_pick_f ?_)
        | (refine ow_new ?_)
        | (refine ow_nck_p ?_)
        | (refine ow_nck_i ?_)
        | (refine ow_nck_f ?_)
        | (refine ow_mki ?_)
        | (refine ow_fa rfl ?_)
        | (refine ow_ext rfl ?_)
        | (refine ow_not rfl ?_)
        | (refine ow_peq_pn rfl ?_)
        | (refine ow_peq_nn rfl ?_)
        | (refine ow_peq_np rfl ?_)
        | (refine ow_ieq_in rfl ?_)
        | (refine ow_ieq_nn rfl ?_)
        | (refine ow_ieq_ni rfl ?_)
        | (refine ow_mkf rfl rfl ?_)
        | (refine ow_box (by first | (simp only [cellsA]; rfl) | rfl) ?_)
        | (refine ow_len rfl ?_)
        | (refine ow_lss_t (by omega) ?_)
        | (refine ow_lss_f (by omega) ?_)
        | (refine ow_leq_t (by omega) ?_)
        | (refine ow_leq_f (by omega) ?_)
        | (refine ow_gtr_t (by omega) ?_)
        | (refine ow_gtr_f (by omega) ?_)
        | (refine ow_geq_t (by omega) ?_)
        | (refine ow_geq_f (by omega) ?_)
        | (refine ow_eql_t (by omega) ?_)
        | (refine ow_eql_f (by omega) ?_)
        | (refine ow_neq_t (by omega) ?_)
        | (refine ow_neq_f (by omega) ?_)
        | (refine ow_add_i rfl (by omega) (by omega) ?_)
        | (refine ow_sub_i rfl (by omega) (by omega) ?_)
        | (refine ow_conv_i (by omega) (by omega) ?_)
        | (refine ow_conv_u (by omega) (by omega) ?_)
        | (refine ow_iaA (by omega) (by omega) rfl ?_)
        | (refine ow_iaS (by omega) (by omega) rfl ?_)
        | (refine ow_ld (by repeat (first | exact upd_same _ _ _ | assumption | refine upd_get (by omega) ?_)) (by first | exact part_all rfl | rfl | (simp only [partA, if_true, List.drop_succ_cons, List.drop_zero, List.take_succ_cons, List.take_zero, List.length_cons, List.length_nil, Nat.reduceAdd, Nat.zero_add]; rfl)) ?_)
        | (refine ow_st (by repeat (first | exact upd_same _ _ _ | assumption | refine upd_get (by omega) ?_)) (by first | (simp only [cellsA]; rfl) | rfl) rfl (by first | (simp; done) | exact Nat.le_refl _) rfl (by first | exact splice_all rfl | (simp only [splice, List.take_succ_cons, List.take_zero, List.drop_succ_cons, List.drop_zero, List.length_cons, List.length_nil, List.cons_append, List.nil_append, Nat.reduceAdd, Nat.zero_add, Nat.add_zero]; rfl)) ?_)
        | (refine ow_build (by simp only [repl, List.append_nil, fillA, List.map, ev, cellsA, splice, List.take_succ_cons, List.take_zero, List.drop_succ_cons, List.drop_zero, List.length_cons, List.length_nil, List.cons_append, List.nil_append, Nat.reduceAdd, Nat.zero_add, Nat.add_zero, true_and, and_self, if_true, Nat.reduceLeDiff, Nat.le_refl]; rfl) ?_)
        | (refine ow_bsl (by simp only [repl, List.append_nil, fillA, List.map, ev, cellsA, splice, List.take_succ_cons, List.take_zero, List.drop_succ_cons, List.drop_zero, List.length_cons, List.length_nil, List.cons_append, List.nil_append, Nat.reduceAdd, Nat.zero_add, Nat.add_zero, true_and, and_self, if_true, Nat.reduceLeDiff, Nat.le_refl]; rfl) ?_)
        | (refine ldR_of (by repeat (first | exact upd_same _ _ _ | assumption | refine upd_get (by omega) ?_)) (by first | exact part_all rfl | rfl | (simp only [partA, if_true, List.drop_succ_cons, List.drop_zero, List.take_succ_cons, List.take_zero, List.length_cons, List.length_nil, Nat.reduceAdd, Nat.zero_add]; rfl)) ?_)
        | (refine dow_ld (by repeat (first | exact upd_same _ _ _ | assumption | refine upd_get (by omega) ?_)) (by first | exact part_all rfl | rfl | (simp only [partA, if_true, List.drop_succ_cons, List.drop_zero, List.take_succ_cons, List.take_zero, List.length_cons, List.length_nil, Nat.reduceAdd, Nat.zero_add]; rfl)) (by simp only [meets, and_true]; (try (repeat' apply And.intro)); all_goals (intro z; simp only [fp_d, fp_f, List.mem_cons, List.not_mem_nil, or_false, false_or, not_false_eq_true, true_and, and_true, Bool.false_eq_true, false_and, not_or]; omega)) ?_)
        | (refine dow_new (by simp only [meets, and_true]; (try (repeat' apply And.intro)); all_goals (intro z; simp only [fp_d, fp_f, List.mem_cons, List.not_mem_nil, or_false, false_or, not_false_eq_true, true_and, and_true, Bool.false_eq_true, false_and, not_or]; omega)) ?_)
        | (refine dow_box (by first | (simp only [cellsA]; rfl) | rfl) (by simp only [meets, and_true]; (try (repeat' apply And.intro)); all_goals (intro z; simp only [fp_d, fp_f, List.mem_cons, List.not_mem_nil, or_false, false_or, not_false_eq_true, true_and, and_true, Bool.false_eq_true, false_and, not_or]; omega)) ?_)
        | (refine dow_st (by repeat (first | exact upd_same _ _ _ | assumption | refine upd_get (by omega) ?_)) (by first | (simp only [cellsA]; rfl) | rfl) rfl (by first | (simp; done) | exact Nat.le_refl _) rfl (by first | exact splice_all rfl | (simp only [splice, List.take_succ_cons, List.take_zero, List.drop_succ_cons, List.drop_zero, List.length_cons, List.length_nil, List.cons_append, List.nil_append, Nat.reduceAdd, Nat.zero_add, Nat.add_zero]; rfl)) (by simp only [meets, and_true]; (try (repeat' apply And.intro)); all_goals (intro z; simp only [fp_d, fp_f, List.mem_cons, List.not_mem_nil, or_false, false_or, not_false_eq_true, true_and, and_true, Bool.false_eq_true, false_and, not_or]; omega)) ?_)
        | (refine dgw_run ?_)
        | (refine dgw_tf ?_)
        | (refine dgw_ft ?_)
        | (refine dgw_un ?_))
      refine ⟨n - (i + 1), by omega, _, i + 1, rfl, e0, e8, e12, rfl, by omega, rfl, (by repeat (first | exact Good.mono (by assumption) (by omega) | (refine Good.upd ?_ (by omega) (by first | rfl | (refine belowL_mono ?_ _ (by assumption); omega) | (simp [belowB, belowL, below]; (try omega)))))), by omega, fun x hx => by repeat (first | exact old x hx | refine upd_get (by omega) ?_)⟩
  · repeat (first
      | (refine cw_t ?_)
      | (refine cw_f ?_)
      | (refine gw_run ?_)
      | (refine gw_tf ?_)
      | (refine gw_ft ?_)
      | (refine gw_un ?_)
      | (refine ow_pick_t ?_)
      | (refine ow_pick_f ?_)
      | (refine ow_new ?_)
      | (refine ow_nck_p ?_)
      | (refine ow_nck_i ?_)
      | (refine ow_nck_f ?_)
      | (refine ow_mki ?_)
      | (refine ow_fa rfl ?_)
      | (refine ow_ext rfl ?_)
      | (refine ow_not rfl ?_)
      | (refine ow_peq_pn rfl ?_)
      | (refine ow_peq_nn rfl ?_)
      | (refine ow_peq_np rfl ?_)
      | (refine ow_ieq_in rfl ?_)
      | (refine ow_ieq_nn rfl ?_)
      | (refine ow_ieq_ni rfl ?_)
      | (refine ow_mkf rfl rfl ?_)
      | (refine ow_box (by first | (simp only [cellsA]; rfl) | rfl) ?_)
      | (refine ow_len rfl ?_)
      | (refine ow_lss_t (by omega) ?_)
      | (refine ow_lss_f (by omega) ?_)
      | (refine ow_leq_t (by omega) ?_)
      | (refine ow_leq_f (by omega) ?_)
      | (refine ow_gtr_t (by omega) ?_)
      | (refine ow_gtr_f (by omega) ?_)
      | (refine ow_geq_t (by omega) ?_)
      | (refine ow_geq_f (by omega) ?_)
      | (refine ow_eql_t (by omega) ?_)
      | (refine ow_eql_f (by omega) ?_)
      | (refine ow_neq_t (by omega) ?_)
      | (refine ow_neq_f (by omega) ?_)
      | (refine ow_add_i rfl (by omega) (by omega) ?_)
      | (refine ow_sub_i rfl (by omega) (by omega) ?_)
      | (refine ow_conv_i (by omega) (by omega) ?_)
      | (refine ow_conv_u (by omega) (by omega) ?_)
      | (refine ow_iaA (by omega) (by omega) rfl ?_)
      | (refine ow_iaS (by omega) (by omega) rfl ?_)
      | (refine ow_ld (by repeat (first | exact upd_same _ _ _ | assumption | refine upd_get (by omega) ?_)) (by first | exact part_all rfl | rfl | (simp only [partA, if_true, List.drop_succ_cons, List.drop_zero, List.take_succ_cons, List.take_zero, List.length_cons, List.length_nil, Nat.reduceAdd, Nat.zero_add]; rfl)) ?_)
      | (refine ow_st (by repeat (first | exact upd_same _ _ _ | assumption | refine upd_get (by omega) ?_)) (by first | (simp only [cellsA]; rfl) | rfl) rfl (by first | (simp; done) | exact Nat.le_refl _) rfl (by first | exact splice_all rfl | (simp only [splice, List.take_succ_cons, List.take_zero, List.drop_succ_cons, List.drop_zero, List.length_cons, List.length_nil, List.cons_append, List.nil_append, Nat.reduceAdd, Nat.zero_add, Nat.add_zero]; rfl)) ?_)
      | (refine ow_build (by simp only [repl, List.append_nil, fillA, List.map, ev, cellsA, splice, List.take_succ_cons, List.take_zero, List.drop_succ_cons, List.drop_zero, List.length_cons, List.length_nil, List.cons_append, List.nil_append, Nat.reduceAdd, Nat.zero_add, Nat.add_zero, true_and, and_self, if_true, Nat.reduceLeDiff, Nat.le_refl]; rfl) ?_)
      | (refine ow_bsl (by simp only [repl, List.append_nil, fillA, List.map, ev, cellsA, splice, List.take_succ_cons, List.take_zero, List.drop_succ_cons, List.drop_zero, List.length_cons, List.length_nil, List.cons_append, List.nil_append, Nat.reduceAdd, Nat.zero_add, Nat.add_zero, true_and, and_self, if_true, Nat.reduceLeDiff, Nat.le_refl]; rfl) ?_)
      | (refine ldR_of (by repeat (first | exact upd_same _ _ _ | assumption | refine upd_get (by omega) ?_)) (by first | exact part_all rfl | rfl | (simp only [partA, if_true, List.drop_succ_cons, List.drop_zero, List.take_succ_cons, List.take_zero, List.length_cons, List.length_nil, Nat.reduceAdd, Nat.zero_add]; rfl)) ?_)
      | (refine dow_ld (by repeat (first | exact upd_same _ _ _ | assumption | refine upd_get (by omega) ?_)) (by first | exact part_all rfl | rfl | (simp only [partA, if_true, List.drop_succ_cons, List.drop_zero, List.take_succ_cons, List.take_zero, List.length_cons, List.length_nil, Nat.reduceAdd, Nat.zero_add]; rfl)) (by simp only [meets, and_true]; (try (repeat' apply And.intro)); all_goals (intro z; simp only [fp_d, fp_f, List.mem_cons, List.not_mem_nil, or_false, false_or, not_false_eq_true, true_and, and_true, Bool.false_eq_true, false_and, not_or]; omega)) ?_)
      | (refine dow_new (by simp only [meets, and_true]; (try (repeat' apply And.intro)); all_goals (intro z; simp only [fp_d, fp_f, List.mem_cons, List.not_mem_nil, or_false, false_or, not_false_eq_true, true_and, and_true, Bool.false_eq_true, false_and, not_or]; omega)) ?_)
      | (refine dow_box (by first | (simp only [cellsA]; rfl) | rfl) (by simp only [meets, and_true]; (try (repeat' apply And.intro)); all_goals (intro z; simp only [fp_d, fp_f, List.mem_cons, List.not_mem_nil, or_false, false_or, not_false_eq_true, true_and, and_true, Bool.false_eq_true, false_and, not_or]; omega)) ?_)
      | (refine dow_st (by repeat (first | exact upd_same _ _ _ | assumption | refine upd_get (by omega) ?_)) (by first | (simp only [cellsA]; rfl) | rfl) rfl (by first | (simp; done) | exact Nat.le_refl _) rfl (by first | exact splice_all rfl | (simp only [splice, List.take_succ_cons, List.take_zero, List.drop_succ_cons, List.drop_zero, List.length_cons, List.length_nil, List.cons_append, List.nil_append, Nat.reduceAdd, Nat.zero_add, Nat.add_zero]; rfl)) (by simp only [meets, and_true]; (try (repeat' apply And.intro)); all_goals (intro z; simp only [fp_d, fp_f, List.mem_cons, List.not_mem_nil, or_false, false_or, not_false_eq_true, true_and, and_true, Bool.false_eq_true, false_and, not_or]; omega)) ?_)
      | (refine dgw_run ?_)
      | (refine dgw_tf ?_)
      | (refine dgw_ft ?_)
      | (refine dgw_un ?_))
    rw [loopK_exit, X11_2_4_eq]
    generalize hg2 : ug gg _ = g2
    have u0 := (congrFun hg2 0).symm.trans e0
    have u8 := (congrFun hg2 8).symm.trans e8
    have u12 := (congrFun hg2 12).symm.trans e12
    unfold X11_2_4
    rw [u0, u8, u12]
    obtain ⟨v3, h3, n3, hf3, b3, hv3, G3⟩ := callW_elim (of_ev gd T1 (by omega) 3)
    rw [allR_length] at hv3
    have hv3' : v3 = slV b3 z := by rw [hv3]; exact congrArg _ hof
    subst hv3'
    repeat (first
      | (refine cal hf3 ?_)
      | (refine ow_len (lenA_slV _ _) ?_)
      | (refine cw_t ?_)
      | (refine cw_f ?_)
      | (refine gw_run ?_)
      | (refine gw_tf ?_)
      | (refine gw_ft ?_)
      | (refine gw_un ?_)
      | (refine ow_pick_t ?_)
      | (refine ow_pick_f ?_)
      | (refine ow_new ?_)
      | (refine ow_nck_p ?_)
      | (refine ow_nck_i ?_)
      | (refine ow_nck_f ?_)
      | (refine ow_mki ?_)
      | (refine ow_fa rfl ?_)
      | (refine ow_ext rfl ?_)
      | (refine ow_not rfl ?_)
      | (refine ow_peq_pn rfl ?_)
      | (refine ow_peq_nn rfl ?_)
      | (refine ow_peq_np rfl ?_)
      | (refine ow_ieq_in rfl ?_)
      | (refine ow_ieq_nn rfl ?_)
      | (refine ow_ieq_ni rfl ?_)
      | (refine ow_mkf rfl rfl ?_)
      | (refine ow_box (by first | (simp only [cellsA]; rfl) | rfl) ?_)
      | (refine ow_len rfl ?_)
      | (refine ow_lss_t (by omega) ?_)
      | (refine ow_lss_f (by omega) ?_)
      | (refine ow_leq_t (by omega) ?_)
      | (refine ow_leq_f (by omega) ?_)
      | (refine ow_gtr_t (by omega) ?_)
      | (refine ow_gtr_f (by omega) ?_)
      | (refine ow_geq_t (by omega) ?_)
      | (refine ow_geq_f (by omega) ?_)
      | (refine ow_eql_t (by omega) ?_)
      | (refine ow_eql_f (by omega) ?_)
      | (refine ow_neq_t (by omega) ?_)
      | (refine ow_neq_f (by omega) ?_)
      | (refine ow_add_i rfl (by omega) (by omega) ?_)
      | (refine ow_sub_i rfl (by omega) (by omega) ?_)
      | (refine ow_conv_i (by omega) (by omega) ?_)
      | (refine ow_conv_u (by omega) (by omega) ?_)
      | (refine ow_iaA (by omega) (by omega) rfl ?_)
      | (refine ow_iaS (by omega) (by omega) rfl ?_)
      | (refine ow_ld (by repeat (first | exact upd_same _ _ _ | assumption | refine upd_get (by omega) ?_)) (by first | exact part_all rfl | rfl | (simp only [partA, if_true, List.drop_succ_cons, List.drop_zero, List.take_succ_cons, List.take_zero, List.length_cons, List.length_nil, Nat.reduceAdd, Nat.zero_add]; rfl)) ?_)
      | (refine ow_st (by repeat (first | exact upd_same _ _ _ | assumption | refine upd_get (by omega) ?_)) (by first | (simp only [cellsA]; rfl) | rfl) rfl (by first | (simp; done) | exact Nat.le_refl _) rfl (by first | exact splice_all rfl | (simp only [splice, List.take_succ_cons, List.take_zero, List.drop_succ_cons, List.drop_zero, List.length_cons, List.length_nil, List.cons_append, List.nil_append, Nat.reduceAdd, Nat.zero_add, Nat.add_zero]; rfl)) ?_)
      | (refine ow_build (by simp only [repl, List.append_nil, fillA, List.map, ev, cellsA, splice, List.take_succ_cons, List.take_zero, List.drop_succ_cons, List.drop_zero, List.length_cons, List.length_nil, List.cons_append, List.nil_append, Nat.reduceAdd, Nat.zero_add, Nat.add_zero, true_and, and_self, if_true, Nat.reduceLeDiff, Nat.le_refl]; rfl) ?_)
      | (refine ow_bsl (by simp only [repl, List.append_nil, fillA, List.map, ev, cellsA, splice, List.take_succ_cons, List.take_zero, List.drop_succ_cons, List.drop_zero, List.length_cons, List.length_nil, List.cons_append, List.nil_append, Nat.reduceAdd, Nat.zero_add, Nat.add_zero, true_and, and_self, if_true, Nat.reduceLeDiff, Nat.le_refl]; rfl) ?_)
      | (refine ldR_of (by repeat (first | exact upd_same _ _ _ | assumption | refine upd_get (by omega) ?_)) (by first | exact part_all rfl | rfl | (simp only [partA, if_true, List.drop_succ_cons, List.drop_zero, List.take_succ_cons, List.take_zero, List.length_cons, List.length_nil, Nat.reduceAdd, Nat.zero_add]; rfl)) ?_)
      | (refine dow_ld (by repeat (first | exact upd_same _ _ _ | assumption | refine upd_get (by omega) ?_)) (by first | exact part_all rfl | rfl | (simp only [partA, if_true, List.drop_succ_cons, List.drop_zero, List.take_succ_cons, List.take_zero, List.length_cons, List.length_nil, Nat.reduceAdd, Nat.zero_add]; rfl)) (by simp only [meets, and_true]; (try (repeat' apply And.intro)); all_goals (intro z; simp only [fp_d, fp_f, List.mem_cons, List.not_mem_nil, or_false, false_or, not_false_eq_true, true_and, and_true, Bool.false_eq_true, false_and, not_or]; omega)) ?_)
      | (refine dow_new (by simp only [meets, and_true]; (try (repeat' apply And.intro)); all_goals (intro z; simp only [fp_d, fp_f, List.mem_cons, List.not_mem_nil, or_false, false_or, not_false_eq_true, true_and, and_true, Bool.false_eq_true, false_and, not_or]; omega)) ?_)
      | (refine dow_box (by first | (simp only [cellsA]; rfl) | rfl) (by simp only [meets, and_true]; (try (repeat' apply And.intro)); all_goals (intro z; simp only [fp_d, fp_f, List.mem_cons, List.not_mem_nil, or_false, false_or, not_false_eq_true, true_and, and_true, Bool.false_eq_true, false_and, not_or]; omega)) ?_)
      | (refine dow_st (by repeat (first | exact upd_same _ _ _ | assumption | refine upd_get (by omega) ?_)) (by first | (simp only [cellsA]; rfl) | rfl) rfl (by first | (simp; done) | exact Nat.le_refl _) rfl (by first | exact splice_all rfl | (simp only [splice, List.take_succ_cons, List.take_zero, List.drop_succ_cons, List.drop_zero, List.length_cons, List.length_nil, List.cons_append, List.nil_append, Nat.reduceAdd, Nat.zero_add, Nat.add_zero]; rfl)) (by simp only [meets, and_true]; (try (repeat' apply And.intro)); all_goals (intro z; simp only [fp_d, fp_f, List.mem_cons, List.not_mem_nil, or_false, false_or, not_false_eq_true, true_and, and_true, Bool.false_eq_true, false_and, not_or]; omega)) ?_)
      | (refine dgw_run ?_)
      | (refine dgw_tf ?_)
      | (refine dgw_ft ?_)
      | (refine dgw_un ?_))
    rfl

set_option maxRecDepth 20000 in
set_option maxHeartbeats 4000000 in
theorem capsChain_law (x y : Int) (dr : Bool) (hx : inI x) (hy : inI y) : callW Tryz.prog 11 [.int .i64 x, .int .i64 y, .bool dr] hE 4 fun v _ _ => v = .bool true := by
  unfold inI at hx hy
  have m1 := Int.tmod_lt_of_pos x (b := 6) (by omega)
  have m2 := Int.lt_tmod_of_pos x (b := 6) (by omega)
  obtain ⟨n, hn⟩ : ∃ n : Nat, (2 + (x.tmod 6 + 6) % 6) = (n : Int) := ⟨(2 + (x.tmod 6 + 6) % 6).toNat, by omega⟩
  have hn1 : 2 ≤ n := by omega
  have hn7 : n ≤ 7 := by omega
  have m3 := Int.tmod_lt_of_pos y (b := (n : Int)) (by omega)
  have m4 := Int.lt_tmod_of_pos y (b := (n : Int)) (by omega)
  have m5 := Int.emod_nonneg (y.tmod (n : Int) + n) (b := (n : Int)) (by omega)
  have m6 := Int.emod_lt_of_pos (y.tmod (n : Int) + n) (b := (n : Int)) (by omega)
  obtain ⟨a, ha⟩ : ∃ a : Nat, (y.tmod (n : Int) + n) % (n : Int) = (a : Int) := ⟨((y.tmod (n : Int) + n) % (n : Int)).toNat, by omega⟩
  have han : a < n := by omega
  obtain ⟨f1, f2, f4, f5, f6, f7, f8, f9⟩ := ch_facts n (by omega) a han
  have T0 := newTree_at hE 4 2
  have g0 := newTree_good goodE' 2
  have Tt : ∀ i, TreeAt (treeH (newTree hE 4 2) 4 2 (chL i)) 5 4 2 (chL i) := fun i => T0.put _
  have gt : ∀ i, Go.Eng.Good 6 (treeH (newTree hE 4 2) 4 2 (chL i)) := fun i => treeH_good g0 T0 _
  refine W11_ok ?_
  unfold W11
  repeat (first
    | (refine cal (begun_ev _) ?_)
    | (refine ow_rem_nn (by omega) (by omega) ?_)
    | (refine ow_rem (by omega) ?_)
    | (rw [hn])
    | (rw [ha])
    | (refine cal (newTree_ev (E := 2) (by omega) (by omega) _ _) ?_)
    | (refine cal (root_ev g0 T0 0 0 3 _) ?_)
    | (rw [ch_root])
    | (refine cw_t ?_)
    | (refine cw_f ?_)
    | (refine gw_run ?_)
    | (refine gw_tf ?_)
    | (refine gw_ft ?_)
    | (refine gw_un ?_)
    | (refine ow_pick_t ?_)
    | (refine ow_pick_f ?_)
    | (refine ow_new ?_)
    | (refine ow_nck_p ?_)
    | (refine ow_nck_i ?_)
    | (refine ow_nck_f ?_)
    | (refine ow_mki ?_)
    | (refine ow_fa rfl ?_)
    | (refine ow_ext rfl ?_)
    | (refine ow_not rfl ?_)
    | (refine ow_peq_pn rfl ?_)
    | (refine ow_peq_nn rfl ?_)
    | (refine ow_peq_np rfl ?_)
    | (refine ow_ieq_in rfl ?_)
    | (refine ow_ieq_nn rfl ?_)
    | (refine ow_ieq_ni rfl ?_)
    | (refine ow_mkf rfl rfl ?_)
    | (refine ow_box (by first | (simp only [cellsA]; rfl) | rfl) ?_)
    | (refine ow_len rfl ?_)
    | (refine ow_lss_t (by omega) ?_)
    | (refine ow_lss_f (by omega) ?_)
    | (refine ow_leq_t (by omega) ?_)
    | (refine ow_leq_f (by omega) ?_)
    | (refine ow_gtr_t (by omega) ?_)
    | (refine ow_gtr_f (by omega) ?_)
    | (refine ow_geq_t (by omega) ?_)
    | (refine ow_geq_f (by omega) ?_)
    | (refine ow_eql_t (by omega) ?_)
    | (refine ow_eql_f (by omega) ?_)
    | (refine ow_neq_t (by omega) ?_)
    | (refine ow_neq_f (by omega) ?_)
    | (refine ow_add_i rfl (by omega) (by omega) ?_)
    | (refine ow_sub_i rfl (by omega) (by omega) ?_)
    | (refine ow_conv_i (by omega) (by omega) ?_)
    | (refine ow_conv_u (by omega) (by omega) ?_)
    | (refine ow_iaA (by omega) (by omega) rfl ?_)
    | (refine ow_iaS (by omega) (by omega) rfl ?_)
    | (refine ow_ld (by repeat (first | exact upd_same _ _ _ | assumption | refine upd_get (by omega) ?_)) (by first | exact part_all rfl | rfl | (simp only [partA, if_true, List.drop_succ_cons, List.drop_zero, List.take_succ_cons, List.take_zero, List.length_cons, List.length_nil, Nat.reduceAdd, Nat.zero_add]; rfl)) ?_)
    | (refine ow_st (by repeat (first | exact upd_same _ _ _ | assumption | refine upd_get (by omega) ?_)) (by first | (simp only [cellsA]; rfl) | rfl) rfl (by first | (simp; done) | exact Nat.le_refl _) rfl (by first | exact splice_all rfl | (simp only [splice, List.take_succ_cons, List.take_zero, List.drop_succ_cons, List.drop_zero, List.length_cons, List.length_nil, List.cons_append, List.nil_append, Nat.reduceAdd, Nat.zero_add, Nat.add_zero]; rfl)) ?_)
    | (refine ow_build (by simp only [repl, List.append_nil, fillA, List.map, ev, cellsA, splice, List.take_succ_cons, List.take_zero, List.drop_succ_cons, List.drop_zero, List.length_cons, List.length_nil, List.cons_append, List.nil_append, Nat.reduceAdd, Nat.zero_add, Nat.add_zero, true_and, and_self, if_true, Nat.reduceLeDiff, Nat.le_refl]; rfl) ?_)
    | (refine ow_bsl (by simp only [repl, List.append_nil, fillA, List.map, ev, cellsA, splice, List.take_succ_cons, List.take_zero, List.drop_succ_cons, List.drop_zero, List.length_cons, List.length_nil, List.cons_append, List.nil_append, Nat.reduceAdd, Nat.zero_add, Nat.add_zero, true_and, and_self, if_true, Nat.reduceLeDiff, Nat.le_refl]; rfl) ?_)
    | (refine ldR_of (by repeat (first | exact upd_same _ _ _ | assumption | refine upd_get (by omega) ?_)) (by first | exact part_all rfl | rfl | (simp only [partA, if_true, List.drop_succ_cons, List.drop_zero, List.take_succ_cons, List.take_zero, List.length_cons, List.length_nil, Nat.reduceAdd, Nat.zero_add]; rfl)) ?_)
    | (refine dow_ld (by repeat (first | exact upd_same _ _ _ | assumption | refine upd_get (by omega) ?_)) (by first | exact part_all rfl | rfl | (simp only [partA, if_true, List.drop_succ_cons, List.drop_zero, List.take_succ_cons, List.take_zero, List.length_cons, List.length_nil, Nat.reduceAdd, Nat.zero_add]; rfl)) (by simp only [meets, and_true]; (try (repeat' apply And.intro)); all_goals (intro z; simp only [fp_d, fp_f, List.mem_cons, List.not_mem_nil, or_false, false_or, not_false_eq_true, true_and, and_true, Bool.false_eq_true, false_and, not_or]; omega)) ?_)
    | (refine dow_new (by simp only [meets, and_true]; (try (repeat' apply And.intro)); all_goals (intro z; simp only [fp_d, fp_f, List.mem_cons, List.not_mem_nil, or_false, false_or, not_false_eq_true, true_and, and_true, Bool.false_eq_true, false_and, not_or]; omega)) ?_)
    | (refine dow_box (by first | (simp only [cellsA]; rfl) | rfl) (by simp only [meets, and_true]; (try (repeat' apply And.intro)); all_goals (intro z; simp only [fp_d, fp_f, List.mem_cons, List.not_mem_nil, or_false, false_or, not_false_eq_true, true_and, and_true, Bool.false_eq_true, false_and, not_or]; omega)) ?_)
    | (refine dow_st (by repeat (first | exact upd_same _ _ _ | assumption | refine upd_get (by omega) ?_)) (by first | (simp only [cellsA]; rfl) | rfl) rfl (by first | (simp; done) | exact Nat.le_refl _) rfl (by first | exact splice_all rfl | (simp only [splice, List.take_succ_cons, List.take_zero, List.drop_succ_cons, List.drop_zero, List.length_cons, List.length_nil, List.cons_append, List.nil_append, Nat.reduceAdd, Nat.zero_add, Nat.add_zero]; rfl)) (by simp only [meets, and_true]; (try (repeat' apply And.intro)); all_goals (intro z; simp only [fp_d, fp_f, List.mem_cons, List.not_mem_nil, or_false, false_or, not_false_eq_true, true_and, and_true, Bool.false_eq_true, false_and, not_or]; omega)) ?_)
    | (refine dgw_run ?_)
    | (refine dgw_tf ?_)
    | (refine dgw_ft ?_)
    | (refine dgw_un ?_))
  refine loopW_inv mixed (fun d aa h1 n1 => ∃ gg i, aa = tl 143 gg ∧ gg 0 = .int .i64 (n : Int) ∧ gg 1 = .int .i64 (a : Int) ∧ gg 2 = .bool dr ∧ gg 8 = .ptr 5 0 ∧ gg 9 = .int .i64 ((i : Nat) : Int) ∧ 1 ≤ i ∧ i ≤ n ∧ d = n - i ∧ n1 = 6 ∧ h1 = treeH (newTree hE 4 2) 4 2 (chL i)) (d := n - 1) ?_
    ⟨_, 1, rfl, rfl, rfl, rfl, rfl, rfl, by omega, by omega, rfl, rfl, rfl⟩
  intro d aa h1 n1 hI
  obtain ⟨gg, i, haa, e0, e1, e2, e8, e9, hi1, hi, hd, hn', hh⟩ := hI
  subst haa hn' hh
  rw [B11_0_eq]
  unfold B11_0
  rw [e0, e8, e9]
  by_cases hlt : i < n
  · repeat (first
      | (refine ow_rem_nn (by omega) (by omega) ?_)
      | (refine cal (derive_ev (gt i) (Tt i) (((i : Int) - 1) % 2) ((i : Int) - 1) ((i : Int) % 2) (i : Int) 3 _) ?_)
      | (rw [ch_derive i (by omega) (by omega), treeH_treeH])
      | (refine cw_t ?_)
      | (refine cw_f ?_)
      | (refine gw_run ?_)
      | (refine gw_tf ?_)
      | (refine gw_ft ?_)
      | (refine gw_un ?_)
      | (refine ow_pick_t ?_)
      | (refine ow_pick_f ?_)
      | (refine ow_new ?_)
      | (refine ow_nck_p ?_)
      | (refine ow_nck_i ?_)
      | (refine ow_nck_f ?_)
      | (refine ow_mki ?_)
      | (refine ow_fa rfl ?_)
      | (refine ow_ext rfl ?_)
      | (refine ow_not rfl ?_)
      | (refine ow_peq_pn rfl ?_)
      | (refine ow_peq_nn rfl ?_)
      | (refine ow_peq_np rfl ?_)
      | (refine ow_ieq_in rfl ?_)
      | (refine ow_ieq_nn rfl ?_)
      | (refine ow_ieq_ni rfl ?_)
      | (refine ow_mkf rfl rfl ?_)
      | (refine ow_box (by first | (simp only [cellsA]; rfl) | rfl) ?_)
      | (refine ow_len rfl ?_)
      | (refine ow_lss_t (by omega) ?_)
      | (refine ow_lss_f (by omega) ?_)
      | (refine ow_leq_t (by omega) ?_)
      | (refine ow_leq_f (by omega) ?_)
      | (refine ow_gtr_t (by omega) ?_)
      | (refine ow_gtr_f (by omega) ?_)
      | (refine ow_geq_t (by omega) ?_)
      | (refine ow_geq_f (by omega) ?_)
      | (refine ow_eql_t (by omega) ?_)
      | (refine ow_eql_f (by omega) ?_)
      | (refine ow_neq_t (by omega) ?_)
      | (refine ow_neq_f (by omega) ?_)
      | (refine ow_add_i rfl (by omega) (by omega) ?_)
      | (refine ow_sub_i rfl (by omega) (by omega) ?_)
      | (refine ow_conv_i (by omega) (by omega) ?_)
      | (refine ow_conv_u (by omega) (by omega) ?_)
      | (refine ow_iaA (by omega) (by omega) rfl ?_)
      | (refine ow_iaS (by omega) (by omega) rfl ?_)
      | (refine ow_ld (by repeat (first | exact upd_same _ _ _ | assumption | refine upd_get (by omega) ?_)) (by first | exact part_all rfl | rfl | (simp only [partA, if_true, List.drop_succ_cons, List.drop_zero, List.take_succ_cons, List.take_zero, List.length_cons, List.length_nil, Nat.reduceAdd, Nat.zero_add]; rfl)) ?_)
      | (refine ow_st (by repeat (first | exact upd_same _ _ _ | assumption | refine upd_get (by omega) ?_)) (by first | (simp only [cellsA]; rfl) | rfl) rfl (by first | (simp; done) | exact Nat.le_refl _) rfl (by first | exact splice_all rfl | (simp only [splice, List.take_succ_cons, List.take_zero, List.drop_succ_cons, List.drop_zero, List.length_cons, List.length_nil, List.cons_append, List.nil_append, Nat.reduceAdd, Nat.zero_add, Nat.add_zero]; rfl)) ?_)
      | (refine ow_build (by simp only [repl, List.append_nil, fillA, List.map, ev, cellsA, splice, List.take_succ_cons, List.take_zero, List.drop_succ_cons, List.drop_zero, List.length_cons, List.length_nil, List.cons_append, List.nil_append, Nat.reduceAdd, Nat.zero_add, Nat.add_zero, true_and, and_self, if_true, Nat.reduceLeDiff, Nat.le_refl]; rfl) ?_)
      | (refine ow_bsl (by simp only [repl, List.append_nil, fillA, List.map, ev, cellsA, splice, List.take_succ_cons, List.take_zero, List.drop_succ_cons, List.drop_zero, List.length_cons, List.length_nil, List.cons_append, List.nil_append, Nat.reduceAdd, Nat.zero_add, Nat.add_zero, true_and, and_self, if_true, Nat.reduceLeDiff, Nat.le_refl]; rfl) ?_)
      | (refine ldR_of (by repeat (first | exact upd_same _ _ _ | assumption | refine upd_get (by omega) ?_)) (by first | exact part_all rfl | rfl | (simp only [partA, if_true, List.drop_succ_cons, List.drop_zero, List.take_succ_cons, List.take_zero, List.length_cons, List.length_nil, Nat.reduceAdd, Nat.zero_add]; rfl)) ?_)
      | (refine dow_ld (by repeat (first | exact upd_same _ _ _ | assumption | refine upd_get (by omega) ?_)) (by first | exact part_all rfl | rfl | (simp only [partA, if_true, List.drop_succ_cons, List.drop_zero, List.take_succ_cons, List.take_zero, List.length_cons, List.length_nil, Nat.reduceAdd, Nat.zero_add]; rfl)) (by simp only [meets, and_true]; (try (repeat' apply And.intro)); all_goals (intro z; simp only [fp_d, fp_f, List.mem_cons, List.not_mem_nil, or_false, false_or, not_false_eq_true, true_and, and_true, Bool.false_eq_true, false_and, not_or]; omega)) ?_)
      | (refine dow_new (by simp only [meets, and_true]; (try (repeat' apply And.intro)); all_goals (intro z; simp only [fp_d, fp_f, List.mem_cons, List.not_mem_nil, or_false, false_or, not_false_eq_true, true_and, and_true, Bool.false_eq_true, false_and, not_or]; omega)) ?_)
      | (refine dow_box (by first | (simp only [cellsA]; rfl) | rfl) (by simp only [meets, and_true]; (try (repeat' apply And.intro)); all_goals (intro z; simp only [fp_d, fp_f, List.mem_cons, List.not_mem_nil, or_false, false_or, not_false_eq_true, true_and, and_true, Bool.false_eq_true, false_and, not_or]; omega)) ?_)
      | (refine dow_st (by repeat (first | exact upd_same _ _ _ | assumption | refine upd_get (by omega) ?_)) (by first | (simp only [cellsA]; rfl) | rfl) rfl (by first | (simp; done) | exact Nat.le_refl _) rfl (by first | exact splice_all rfl | (simp only [splice, List.take_succ_cons, List.take_zero, List.drop_succ_cons, List.drop_zero, List.length_cons, List.length_nil, List.cons_append, List.nil_append, Nat.reduceAdd, Nat.zero_add, Nat.add_zero]; rfl)) (by simp only [meets, and_true]; (try (repeat' apply And.intro)); all_goals (intro z; simp only [fp_d, fp_f, List.mem_cons, List.not_mem_nil, or_false, false_or, not_false_eq_true, true_and, and_true, Bool.false_eq_true, false_and, not_or]; omega)) ?_)
      | (refine dgw_run ?_)
      | (refine dgw_tf ?_)
      | (refine dgw_ft ?_)
      | (refine dgw_un ?_))
    exact ⟨n - (i + 1), by omega, _, i + 1, rfl, e0, e1, e2, e8, rfl, by omega, by omega, rfl, rfl, rfl⟩
  · have hin : i = n := by omega
    subst hin
    repeat (first
      | (refine cw_t ?_)
      | (refine cw_f ?_)
      | (refine gw_run ?_)
      | (refine gw_tf ?_)
      | (refine gw_ft ?_)
      | (refine gw_un ?_)
      | (refine ow_pick_t ?_)
      | (refine ow_pick_f ?_)
      | (refine ow_new ?_)
      | (refine ow_nck_p ?_)
      | (refine ow_nck_i ?_)
      | (refine ow_nck_f ?_)
      | (refine ow_mki ?_)
      | (refine ow_fa rfl ?_)
      | (refine ow_ext rfl ?_)
      | (refine ow_not rfl ?_)
      | (refine ow_peq_pn rfl ?_)
      | (refine ow_peq_nn rfl ?_)
      | (refine ow_peq_np rfl ?_)
      | (refine ow_ieq_in rfl ?_)
      | (refine ow_ieq_nn rfl ?_)
      | (refine ow_ieq_ni rfl ?_)
      | (refine ow_mkf rfl rfl ?_)
      | (refine ow_box (by first | (simp only [cellsA]; rfl) | rfl) ?_)
      | (refine ow_len rfl ?_)
      | (refine ow_lss_t (by omega) ?_)
      | (refine ow_lss_f (by omega) ?_)
      | (refine ow_leq_t (by omega) ?_)
      | (refine ow_leq_f (by omega) ?_)
      | (refine ow_gtr_t (by omega) ?_)
      | (refine ow_gtr_f (by omega) ?_)
      | (refine ow_geq_t (by omega) ?_)
      | (refine ow_geq_f (by omega) ?_)
      | (refine ow_eql_t (by omega) ?_)
      | (refine ow_eql_f (by omega) ?_)
      | (refine ow_neq_t (by omega) ?_)
      | (refine ow_neq_f (by omega) ?_)
      | (refine ow_add_i rfl (by omega) (by omega) ?_)
      | (refine ow_sub_i rfl (by omega) (by omega) ?_)
      | (refine ow_conv_i (by omega) (by omega) ?_)
      | (refine ow_conv_u (by omega) (by omega) ?_)
      | (refine ow_iaA (by omega) (by omega) rfl ?_)
      | (refine ow_iaS (by omega) (by omega) rfl ?_)
      | (refine ow_ld (by repeat (first | exact upd_same _ _ _ | assumption | refine upd_get (by omega) ?_)) (by first | exact part_all rfl | rfl | (simp only [partA, if_true, List.drop_succ_cons, List.drop_zero, List.take_succ_cons, List.take_zero, List.length_cons, List.length_nil, Nat.reduceAdd, Nat.zero_add]; rfl)) ?_)
      | (refine ow_st (by repeat (first | exact upd_same _ _ _ | assumption | refine upd_get (by omega) ?_)) (by first | (simp only [cellsA]; rfl) | rfl) rfl (by first | (simp; done) | exact Nat.le_refl _) rfl (by first | exact splice_all rfl | (simp only [splice, List.take_succ_cons, List.take_zero, List.drop_succ_cons, List.drop_zero, List.length_cons, List.length_nil, List.cons_append, List.nil_append, Nat.reduceAdd, Nat.zero_add, Nat.add_zero]; rfl)) ?_)
      | (refine ow_build (by simp only [repl, List.append_nil, fillA, List.map, ev, cellsA, splice, List.take_succ_cons, List.take_zero, List.drop_succ_cons, List.drop_zero, List.length_cons, List.length_nil, List.cons_append, List.nil_append, Nat.reduceAdd, Nat.zero_add, Nat.add_zero, true_and, and_self, if_true, Nat.reduceLeDiff, Nat.le_refl]; rfl) ?_)
      | (refine ow_bsl (by simp only [repl, List.append_nil, fillA, List.map, ev, cellsA, splice, List.take_succ_cons, List.take_zero, List.drop_succ_cons, List.drop_zero, List.length_cons, List.length_nil, List.cons_append, List.nil_append, Nat.reduceAdd, Nat.zero_add, Nat.add_zero, true_and, and_self, if_true, Nat.reduceLeDiff, Nat.le_refl]; rfl) ?_)
      | (refine ldR_of (by repeat (first | exact upd_same _ _ _ | assumption | refine upd_get (by omega) ?_)) (by first | exact part_all rfl | rfl | (simp only [partA, if_true, List.drop_succ_cons, List.drop_zero, List.take_succ_cons, List.take_zero, List.length_cons, List.length_nil, Nat.reduceAdd, Nat.zero_add]; rfl)) ?_)
      | (refine dow_ld (by repeat (first | exact upd_same _ _ _ | assumption | refine upd_get (by omega) ?_)) (by first | exact part_all rfl | rfl | (simp only [partA, if_true, List.drop_succ_cons, List.drop_zero, List.take_succ_cons, List.take_zero, List.length_cons, List.length_nil, Nat.reduceAdd, Nat.zero_add]; rfl)) (by simp only [meets, and_true]; (try (repeat' apply And.intro)); all_goals (intro z; simp only [fp_d, fp_f, List.mem_cons, List.not_mem_nil, or_false, false_or, not_false_eq_true, true_and, and_true, Bool.false_eq_true, false_and, not_or]; omega)) ?_)
      | (refine dow_new (by simp only [meets, and_true]; (try (repeat' apply And.intro)); all_goals (intro z; simp only [fp_d, fp_f, List.mem_cons, List.not_mem_nil, or_false, false_or, not_false_eq_true, true_and, and_true, Bool.false_eq_true, false_and, not_or]; omega)) ?_)
      | (refine dow_box (by first | (simp only [cellsA]; rfl) | rfl) (by simp only [meets, and_true]; (try (repeat' apply And.intro)); all_goals (intro z; simp only [fp_d, fp_f, List.mem_cons, List.not_mem_nil, or_false, false_or, not_false_eq_true, true_and, and_true, Bool.false_eq_true, false_and, not_or]; omega)) ?_)
      | (refine dow_st (by repeat (first | exact upd_same _ _ _ | assumption | refine upd_get (by omega) ?_)) (by first | (simp only [cellsA]; rfl) | rfl) rfl (by first | (simp; done) | exact Nat.le_refl _) rfl (by first | exact splice_all rfl | (simp only [splice, List.take_succ_cons, List.take_zero, List.drop_succ_cons, List.drop_zero, List.length_cons, List.length_nil, List.cons_append, List.nil_append, Nat.reduceAdd, Nat.zero_add, Nat.add_zero]; rfl)) (by simp only [meets, and_true]; (try (repeat' apply And.intro)); all_goals (intro z; simp only [fp_d, fp_f, List.mem_cons, List.not_mem_nil, or_false, false_or, not_false_eq_true, true_and, and_true, Bool.false_eq_true, false_and, not_or]; omega)) ?_)
      | (refine dgw_run ?_)
      | (refine dgw_tf ?_)
      | (refine dgw_ft ?_)
      | (refine dgw_un ?_))
    rw [loopK_exit, X11_0_0_eq]
    generalize hg2 : ug gg _ = g2
    have u0 := (congrFun hg2 0).symm.trans e0
    have u1 := (congrFun hg2 1).symm.trans e1
    have u2 := (congrFun hg2 2).symm.trans e2
    have u8 := (congrFun hg2 8).symm.trans e8
    unfold X11_0_0
    rw [u0, u1, u2, u8]
    have R := ch_ranked i
    obtain ⟨v2, h2, n2, hf2, b2, hv2, G2⟩ := callW_elim (below_ev (gt i) (Tt i) (by omega) R 0 0)
    have T2 := (Tt i).grown (gt i) G2
    obtain ⟨v3, h3, n3, hf3, b3, hv3, G3⟩ := callW_elim (of_ev G2.good T2 (by omega) 3)
    have T3 := T2.grown G2.good G3
    obtain ⟨v4, h4, n4, hf4, b4, hv4, G4⟩ := callW_elim (revoke_ev G3.good T3 (by omega) R ((a : Int) % 2) (a : Int))
    have T4 : TreeAt h4 5 4 2 (chR i a) := T3.grown2 G3.good G4
    rw [allR_length] at hv2 hv3
    have hv2' : v2 = slV b2 (i - 1) := by rw [hv2]; exact congrArg _ (by omega)
    have hv3' : v3 = slV b3 i := by rw [hv3]; exact congrArg _ f2
    have l4 : (revokeL 2 (chL i) ((a : Int) % 2) (a : Int)).length = i - 1 - a := by omega
    rw [f4, l4] at hv4
    subst hv2' hv3' hv4
    have hgone : AV.int .i64 ((i : Int) - 1 - (a : Int)) = AV.int .i64 ((i : Int) - ((a + 1 : Nat) : Int)) := by congr 1; omega
    cases dr with
    | false =>
      repeat (first
        | (refine cal hf2 ?_)
        | (refine cal hf3 ?_)
        | (refine cal hf4 ?_)
        | (refine ow_len (lenA_slV _ _) ?_)
        | (refine ow_rem_nn (by omega) (by omega) ?_)
        | (refine cw_t ?_)
        | (refine cw_f ?_)
        | (refine gw_run ?_)
        | (refine gw_tf ?_)
        | (refine gw_ft ?_)
        | (refine gw_un ?_)
        | (refine ow_pick_t ?_)
        | (refine ow_pick_f ?_)
        | (refine ow_new ?_)
        | (refine ow_nck_p ?_)
        | (refine ow_nck_i ?_)
        | (refine ow_nck_f ?_)
        | (refine ow_mki ?_)
        | (refine ow_fa rfl ?_)
        | (refine ow_ext rfl ?_)
        | (refine ow_not rfl ?_)
        | (refine ow_peq_pn rfl ?_)
        | (refine ow_peq_nn rfl ?_)
        | (refine ow_peq_np rfl ?_)
        | (refine ow_ieq_in rfl ?_)
        | (refine ow_ieq_nn rfl ?_)
        | (refine ow_ieq_ni rfl ?_)
        | (refine ow_mkf rfl rfl ?_)
        | (refine ow_box (by first | (simp only [cellsA]; rfl) | rfl) ?_)
        | (refine ow_len rfl ?_)
        | (refine ow_lss_t (by omega) ?_)
        | (refine ow_lss_f (by omega) ?_)
        | (refine ow_leq_t (by omega) ?_)
        | (refine ow_leq_f (by omega) ?_)
        | (refine ow_gtr_t (by omega) ?_)
        | (refine ow_gtr_f (by omega) ?_)
        | (refine ow_geq_t (by omega) ?_)
        | (refine ow_geq_f (by omega) ?_)
        | (refine ow_eql_t (by omega) ?_)
        | (refine ow_eql_f (by omega) ?_)
        | (refine ow_neq_t (by omega) ?_)
        | (refine ow_neq_f (by omega) ?_)
        | (refine ow_add_i rfl (by omega) (by omega) ?_)
        | (refine ow_sub_i rfl (by omega) (by omega) ?_)
        | (refine ow_conv_i (by omega) (by omega) ?_)
        | (refine ow_conv_u (by omega) (by omega) ?_)
        | (refine ow_iaA (by omega) (by omega) rfl ?_)
        | (refine ow_iaS (by omega) (by omega) rfl ?_)
        | (refine ow_ld (by repeat (first | exact upd_same _ _ _ | assumption | refine upd_get (by omega) ?_)) (by first | exact part_all rfl | rfl | (simp only [partA, if_true, List.drop_succ_cons, List.drop_zero, List.take_succ_cons, List.take_zero, List.length_cons, List.length_nil, Nat.reduceAdd, Nat.zero_add]; rfl)) ?_)
        | (refine ow_st (by repeat (first | exact upd_same _ _ _ | assumption | refine upd_get (by omega) ?_)) (by first | (simp only [cellsA]; rfl) | rfl) rfl (by first | (simp; done) | exact Nat.le_refl _) rfl (by first | exact splice_all rfl | (simp only [splice, List.take_succ_cons, List.take_zero, List.drop_succ_cons, List.drop_zero, List.length_cons, List.length_nil, List.cons_append, List.nil_append, Nat.reduceAdd, Nat.zero_add, Nat.add_zero]; rfl)) ?_)
        | (refine ow_build (by simp only [repl, List.append_nil, fillA, List.map, ev, cellsA, splice, List.take_succ_cons, List.take_zero, List.drop_succ_cons, List.drop_zero, List.length_cons, List.length_nil, List.cons_append, List.nil_append, Nat.reduceAdd, Nat.zero_add, Nat.add_zero, true_and, and_self, if_true, Nat.reduceLeDiff, Nat.le_refl]; rfl) ?_)
        | (refine ow_bsl (by simp only [repl, List.append_nil, fillA, List.map, ev, cellsA, splice, List.take_succ_cons, List.take_zero, List.drop_succ_cons, List.drop_zero, List.length_cons, List.length_nil, List.cons_append, List.nil_append, Nat.reduceAdd, Nat.zero_add, Nat.add_zero, true_and, and_self, if_true, Nat.reduceLeDiff, Nat.le_refl]; rfl) ?_)
        | (refine ldR_of (by repeat (first | exact upd_same _ _ _ | assumption | refine upd_get (by omega) ?_)) (by first | exact part_all rfl | rfl | (simp only [partA, if_true, List.drop_succ_cons, List.drop_zero, List.take_succ_cons, List.take_zero, List.length_cons, List.length_nil, Nat.reduceAdd, Nat.zero_add]; rfl)) ?_)
        | (refine dow_ld (by repeat (first | exact upd_same _ _ _ | assumption | refine upd_get (by omega) ?_)) (by first | exact part_all rfl | rfl | (simp only [partA, if_true, List.drop_succ_cons, List.drop_zero, List.take_succ_cons, List.take_zero, List.length_cons, List.length_nil, Nat.reduceAdd, Nat.zero_add]; rfl)) (by simp only [meets, and_true]; (try (repeat' apply And.intro)); all_goals (intro z; simp only [fp_d, fp_f, List.mem_cons, List.not_mem_nil, or_false, false_or, not_false_eq_true, true_and, and_true, Bool.false_eq_true, false_and, not_or]; omega)) ?_)
        | (refine dow_new (by simp only [meets, and_true]; (try (repeat' apply And.intro)); all_goals (intro z; simp only [fp_d, fp_f, List.mem_cons, List.not_mem_nil, or_false, false_or, not_false_eq_true, true_and, and_true, Bool.false_eq_true, false_and, not_or]; omega)) ?_)
        | (refine dow_box (by first | (simp only [cellsA]; rfl) | rfl) (by simp only [meets, and_true]; (try (repeat' apply And.intro)); all_goals (intro z; simp only [fp_d, fp_f, List.mem_cons, List.not_mem_nil, or_false, false_or, not_false_eq_true, true_and, and_true, Bool.false_eq_true, false_and, not_or]; omega)) ?_)
        | (refine dow_st (by repeat (first | exact upd_same _ _ _ | assumption | refine upd_get (by omega) ?_)) (by first | (simp only [cellsA]; rfl) | rfl) rfl (by first | (simp; done) | exact Nat.le_refl _) rfl (by first | exact splice_all rfl | (simp only [splice, List.take_succ_cons, List.take_zero, List.drop_succ_cons, List.drop_zero, List.length_cons, List.length_nil, List.cons_append, List.nil_append, Nat.reduceAdd, Nat.zero_add, Nat.add_zero]; rfl)) (by simp only [meets, and_true]; (try (repeat' apply And.intro)); all_goals (intro z; simp only [fp_d, fp_f, List.mem_cons, List.not_mem_nil, or_false, false_or, not_false_eq_true, true_and, and_true, Bool.false_eq_true, false_and, not_or]; omega)) ?_)
        | (refine dgw_run ?_)
        | (refine dgw_tf ?_)
        | (refine dgw_ft ?_)
        | (refine dgw_un ?_))
      rw [R11_111111111111_eq]
      generalize hg3 : ug g2 _ = g3
      have w0 : g3 0 = .int .i64 (i : Int) := (congrFun hg3 0).symm.trans u0
      have w8 : g3 8 = .ptr 5 0 := (congrFun hg3 8).symm.trans u8
      have w10 : g3 10 = slV b4 (i - 1 - a) := (congrFun hg3 10).symm
      have w11 : g3 11 = .int .i64 0 := (congrFun hg3 11).symm
      have w12 : g3 12 = .int .i64 ((i : Int) - 1 - (a : Int)) := (congrFun hg3 12).symm
      unfold R11_111111111111
      rw [w10, w11, w12]
      repeat (first
        | (refine ow_len (lenA_slV _ _) ?_)
        | (refine cw_t ?_)
        | (refine cw_f ?_)
        | (refine gw_run ?_)
        | (refine gw_tf ?_)
        | (refine gw_ft ?_)
        | (refine gw_un ?_)
        | (refine ow_pick_t ?_)
        | (refine ow_pick_f ?_)
        | (refine ow_new ?_)
        | (refine ow_nck_p ?_)
        | (refine ow_nck_i ?_)
        | (refine ow_nck_f ?_)
        | (refine ow_mki ?_)
        | (refine ow_fa rfl ?_)
        | (refine ow_ext rfl ?_)
        | (refine ow_not rfl ?_)
        | (refine ow_peq_pn rfl ?_)
        | (refine ow_peq_nn rfl ?_)
        | (refine ow_peq_np rfl ?_)
        | (refine ow_ieq_in rfl ?_)
        | (refine ow_ieq_nn rfl ?_)
        | (refine ow_ieq_ni rfl ?_)
        | (refine ow_mkf rfl rfl ?_)
        | (refine ow_box (by first | (simp only [cellsA]; rfl) | rfl) ?_)
        | (refine ow_len rfl ?_)
        | (refine ow_lss_t (by omega) ?_)
        | (refine ow_lss_f (by omega) ?_)
        | (refine ow_leq_t (by omega) ?_)
        | (refine ow_leq_f (by omega) ?_)
        | (refine ow_gtr_t (by omega) ?_)
        | (refine ow_gtr_f (by omega) ?_)
        | (refine ow_geq_t (by omega) ?_)
        | (refine ow_geq_f (by omega) ?_)
        | (refine ow_eql_t (by omega) ?_)
        | (refine ow_eql_f (by omega) ?_)
        | (refine ow_neq_t (by omega) ?_)
        | (refine ow_neq_f (by omega) ?_)
        | (refine ow_add_i rfl (by omega) (by omega) ?_)
        | (refine ow_sub_i rfl (by omega) (by omega) ?_)
        | (refine ow_conv_i (by omega) (by omega) ?_)
        | (refine ow_conv_u (by omega) (by omega) ?_)
        | (refine ow_iaA (by omega) (by omega) rfl ?_)
        | (refine ow_iaS (by omega) (by omega) rfl ?_)
        | (refine ow_ld (by repeat (first | exact upd_same _ _ _ | assumption | refine upd_get (by omega) ?_)) (by first | exact part_all rfl | rfl | (simp only [partA, if_true, List.drop_succ_cons, List.drop_zero, List.take_succ_cons, List.take_zero, List.length_cons, List.length_nil, Nat.reduceAdd, Nat.zero_add]; rfl)) ?_)
        | (refine ow_st (by repeat (first | exact upd_same _ _ _ | assumption | refine upd_get (by omega) ?_)) (by first | (simp only [cellsA]; rfl) | rfl) rfl (by first | (simp; done) | exact Nat.le_refl _) rfl (by first | exact splice_all rfl | (simp only [splice, List.take_succ_cons, List.take_zero, List.drop_succ_cons, List.drop_zero, List.length_cons, List.length_nil, List.cons_append, List.nil_append, Nat.reduceAdd, Nat.zero_add, Nat.add_zero]; rfl)) ?_)
        | (refine ow_build (by simp only [repl, List.append_nil, fillA, List.map, ev, cellsA, splice, List.take_succ_cons, List.take_zero, List.drop_succ_cons, List.drop_zero, List.length_cons, List.length_nil, List.cons_append, List.nil_append, Nat.reduceAdd, Nat.zero_add, Nat.add_zero, true_and, and_self, if_true, Nat.reduceLeDiff, Nat.le_refl]; rfl) ?_)
        | (refine ow_bsl (by simp only [repl, List.append_nil, fillA, List.map, ev, cellsA, splice, List.take_succ_cons, List.take_zero, List.drop_succ_cons, List.drop_zero, List.length_cons, List.length_nil, List.cons_append, List.nil_append, Nat.reduceAdd, Nat.zero_add, Nat.add_zero, true_and, and_self, if_true, Nat.reduceLeDiff, Nat.le_refl]; rfl) ?_)
        | (refine ldR_of (by repeat (first | exact upd_same _ _ _ | assumption | refine upd_get (by omega) ?_)) (by first | exact part_all rfl | rfl | (simp only [partA, if_true, List.drop_succ_cons, List.drop_zero, List.take_succ_cons, List.take_zero, List.length_cons, List.length_nil, Nat.reduceAdd, Nat.zero_add]; rfl)) ?_)
        | (refine dow_ld (by repeat (first | exact upd_same _ _ _ | assumption | refine upd_get (by omega) ?_)) (by first | exact part_all rfl | rfl | (simp only [partA, if_true, List.drop_succ_cons, List.drop_zero, List.take_succ_cons, List.take_zero, List.length_cons, List.length_nil, Nat.reduceAdd, Nat.zero_add]; rfl)) (by simp only [meets, and_true]; (try (repeat' apply And.intro)); all_goals (intro z; simp only [fp_d, fp_f, List.mem_cons, List.not_mem_nil, or_false, false_or, not_false_eq_true, true_and, and_true, Bool.false_eq_true, false_and, not_or]; omega)) ?_)
        | (refine dow_new (by simp only [meets, and_true]; (try (repeat' apply And.intro)); all_goals (intro z; simp only [fp_d, fp_f, List.mem_cons, List.not_mem_nil, or_false, false_or, not_false_eq_true, true_and, and_true, Bool.false_eq_true, false_and, not_or]; omega)) ?_)
        | (refine dow_box (by first | (simp only [cellsA]; rfl) | rfl) (by simp only [meets, and_true]; (try (repeat' apply And.intro)); all_goals (intro z; simp only [fp_d, fp_f, List.mem_cons, List.not_mem_nil, or_false, false_or, not_false_eq_true, true_and, and_true, Bool.false_eq_true, false_and, not_or]; omega)) ?_)
        | (refine dow_st (by repeat (first | exact upd_same _ _ _ | assumption | refine upd_get (by omega) ?_)) (by first | (simp only [cellsA]; rfl) | rfl) rfl (by first | (simp; done) | exact Nat.le_refl _) rfl (by first | exact splice_all rfl | (simp only [splice, List.take_succ_cons, List.take_zero, List.drop_succ_cons, List.drop_zero, List.length_cons, List.length_nil, List.cons_append, List.nil_append, Nat.reduceAdd, Nat.zero_add, Nat.add_zero]; rfl)) (by simp only [meets, and_true]; (try (repeat' apply And.intro)); all_goals (intro z; simp only [fp_d, fp_f, List.mem_cons, List.not_mem_nil, or_false, false_or, not_false_eq_true, true_and, and_true, Bool.false_eq_true, false_and, not_or]; omega)) ?_)
        | (refine dgw_run ?_)
        | (refine dgw_tf ?_)
        | (refine dgw_ft ?_)
        | (refine dgw_un ?_))
      exact ch_tail (z := a + 1) G4.good T4 (by omega) (by omega) (fun j hj => (f9 j hj).1) f6 _ w0 w8 (w12.trans hgone) rfl
    | true =>
      have T5 := newTree_at h4 n4 2
      have g5 := newTree_good G4.good 2
      have Ts : ∀ j, TreeAt (treeH (newTree h4 n4 2) n4 2 (chL j)) (n4 + 1) n4 2 (chL j) := fun j => T5.put _
      have gs : ∀ j, Go.Eng.Good (n4 + 2) (treeH (newTree h4 n4 2) n4 2 (chL j)) := fun j => treeH_good g5 T5 _
      repeat (first
        | (refine cal hf2 ?_)
        | (refine cal hf3 ?_)
        | (refine cal hf4 ?_)
        | (refine ow_len (lenA_slV _ _) ?_)
        | (refine ow_rem_nn (by omega) (by omega) ?_)
        | (refine cal (newTree_ev (E := 2) (by omega) (by omega) _ _) ?_)
        | (refine cal (root_ev g5 T5 0 0 3 _) ?_)
        | (rw [ch_root])
        | (refine cw_t ?_)
        | (refine cw_f ?_)
        | (refine gw_run ?_)
        | (refine gw_tf ?_)
        | (refine gw_ft ?_)
        | (refine gw_un ?_)
        | (refine ow_pick_t ?_)
        | (refine ow_pick_f ?_)
        | (refine ow_new ?_)
        | (refine ow_nck_p ?_)
        | (refine ow_nck_i ?_)
        | (refine ow_nck_f ?_)
        | (refine ow_mki ?_)
        | (refine ow_fa rfl ?_)
        | (refine ow_ext rfl ?_)
        | (refine ow_not rfl ?_)
        | (refine ow_peq_pn rfl ?_)
        | (refine ow_peq_nn rfl ?_)
        | (refine ow_peq_np rfl ?_)
        | (refine ow_ieq_in rfl ?_)
        | (refine ow_ieq_nn rfl ?_)
        | (refine ow_ieq_ni rfl ?_)
        | (refine ow_mkf rfl rfl ?_)
        | (refine ow_box (by first | (simp only [cellsA]; rfl) | rfl) ?_)
        | (refine ow_len rfl ?_)
        | (refine ow_lss_t (by omega) ?_)
        | (refine ow_lss_f (by omega) ?_)
        | (refine ow_leq_t (by omega) ?_)
        | (refine ow_leq_f (by omega) ?_)
        | (refine ow_gtr_t (by omega) ?_)
        | (refine ow_gtr_f (by omega) ?_)
        | (refine ow_geq_t (by omega) ?_)
        | (refine ow_geq_f (by omega) ?_)
        | (refine ow_eql_t (by omega) ?_)
        | (refine ow_eql_f (by omega) ?_)
        | (refine ow_neq_t (by omega) ?_)
        | (refine ow_neq_f (by omega) ?_)
        | (refine ow_add_i rfl (by omega) (by omega) ?_)
        | (refine ow_sub_i rfl (by omega) (by omega) ?_)
        | (refine ow_conv_i (by omega) (by omega) ?_)
        | (refine ow_conv_u (by omega) (by omega) ?_)
        | (refine ow_iaA (by omega) (by omega) rfl ?_)
        | (refine ow_iaS (by omega) (by omega) rfl ?_)
        | (refine ow_ld (by repeat (first | exact upd_same _ _ _ | assumption | refine upd_get (by omega) ?_)) (by first | exact part_all rfl | rfl | (simp only [partA, if_true, List.drop_succ_cons, List.drop_zero, List.take_succ_cons, List.take_zero, List.length_cons, List.length_nil, Nat.reduceAdd, Nat.zero_add]; rfl)) ?_)
        | (refine ow_st (by repeat (first | exact upd_same _ _ _ | assumption | refine upd_get (by omega) ?_)) (by first | (simp only [cellsA]; rfl) | rfl) rfl (by first | (simp; done) | exact Nat.le_refl _) rfl (by first | exact splice_all rfl | (simp only [splice, List.take_succ_cons, List.take_zero, List.drop_succ_cons, List.drop_zero, List.length_cons, List.length_nil, List.cons_append, List.nil_append, Nat.reduceAdd, Nat.zero_add, Nat.add_zero]; rfl)) ?_)
        | (refine ow_build (by simp only [repl, List.append_nil, fillA, List.map, ev, cellsA, splice, List.take_succ_cons, List.take_zero, List.drop_succ_cons, List.drop_zero, List.length_cons, List.length_nil, List.cons_append, List.nil_append, Nat.reduceAdd, Nat.zero_add, Nat.add_zero, true_and, and_self, if_true, Nat.reduceLeDiff, Nat.le_refl]; rfl) ?_)
        | (refine ow_bsl (by simp only [repl, List.append_nil, fillA, List.map, ev, cellsA, splice, List.take_succ_cons, List.take_zero, List.drop_succ_cons, List.drop_zero, List.length_cons, List.length_nil, List.cons_append, List.nil_append, Nat.reduceAdd, Nat.zero_add, Nat.add_zero, true_and, and_self, if_true, Nat.reduceLeDiff, Nat.le_refl]; rfl) ?_)
        | (refine ldR_of (by repeat (first | exact upd_same _ _ _ | assumption | refine upd_get (by omega) ?_)) (by first | exact part_all rfl | rfl | (simp only [partA, if_true, List.drop_succ_cons, List.drop_zero, List.take_succ_cons, List.take_zero, List.length_cons, List.length_nil, Nat.reduceAdd, Nat.zero_add]; rfl)) ?_)
        | (refine dow_ld (by repeat (first | exact upd_same _ _ _ | assumption | refine upd_get (by omega) ?_)) (by first | exact part_all rfl | rfl | (simp only [partA, if_true, List.drop_succ_cons, List.drop_zero, List.take_succ_cons, List.take_zero, List.length_cons, List.length_nil, Nat.reduceAdd, Nat.zero_add]; rfl)) (by simp only [meets, and_true]; (try (repeat' apply And.intro)); all_goals (intro z; simp only [fp_d, fp_f, List.mem_cons, List.not_mem_nil, or_false, false_or, not_false_eq_true, true_and, and_true, Bool.false_eq_true, false_and, not_or]; omega)) ?_)
        | (refine dow_new (by simp only [meets, and_true]; (try (repeat' apply And.intro)); all_goals (intro z; simp only [fp_d, fp_f, List.mem_cons, List.not_mem_nil, or_false, false_or, not_false_eq_true, true_and, and_true, Bool.false_eq_true, false_and, not_or]; omega)) ?_)
        | (refine dow_box (by first | (simp only [cellsA]; rfl) | rfl) (by simp only [meets, and_true]; (try (repeat' apply And.intro)); all_goals (intro z; simp only [fp_d, fp_f, List.mem_cons, List.not_mem_nil, or_false, false_or, not_false_eq_true, true_and, and_true, Bool.false_eq_true, false_and, not_or]; omega)) ?_)
        | (refine dow_st (by repeat (first | exact upd_same _ _ _ | assumption | refine upd_get (by omega) ?_)) (by first | (simp only [cellsA]; rfl) | rfl) rfl (by first | (simp; done) | exact Nat.le_refl _) rfl (by first | exact splice_all rfl | (simp only [splice, List.take_succ_cons, List.take_zero, List.drop_succ_cons, List.drop_zero, List.length_cons, List.length_nil, List.cons_append, List.nil_append, Nat.reduceAdd, Nat.zero_add, Nat.add_zero]; rfl)) (by simp only [meets, and_true]; (try (repeat' apply And.intro)); all_goals (intro z; simp only [fp_d, fp_f, List.mem_cons, List.not_mem_nil, or_false, false_or, not_false_eq_true, true_and, and_true, Bool.false_eq_true, false_and, not_or]; omega)) ?_)
        | (refine dgw_run ?_)
        | (refine dgw_tf ?_)
        | (refine dgw_ft ?_)
        | (refine dgw_un ?_))
      generalize hg3 : ug g2 _ = g3
      have w0 : g3 0 = .int .i64 (i : Int) := (congrFun hg3 0).symm.trans u0
      have w1 : g3 1 = .int .i64 (a : Int) := (congrFun hg3 1).symm.trans u1
      have w12 : g3 12 = .int .i64 ((i : Int) - 1 - (a : Int)) := (congrFun hg3 12).symm
      have w13 : g3 13 = .ptr (n4 + 1) 0 := (congrFun hg3 13).symm
      have w14 : g3 14 = .int .i64 1 := (congrFun hg3 14).symm
      refine loopW_inv mixed (fun d aa h1 n1 => ∃ gg j, aa = tl 143 gg ∧ gg 0 = .int .i64 (i : Int) ∧ gg 1 = .int .i64 (a : Int) ∧ gg 12 = .int .i64 ((i : Int) - 1 - (a : Int)) ∧ gg 13 = .ptr (n4 + 1) 0 ∧ gg 14 = .int .i64 ((j : Nat) : Int) ∧ 1 ≤ j ∧ j ≤ i ∧ d = i - j ∧ n1 = n4 + 2 ∧ h1 = treeH (newTree h4 n4 2) n4 2 (chL j)) (d := i - 1) ?_
        ⟨_, 1, rfl, w0, w1, w12, w13, w14, by omega, by omega, rfl, rfl, rfl⟩
      intro d aa h1 n1 hI
      obtain ⟨gg, j, haa, e0, e1, e12, e13, e14, hj1, hj, hd, hn', hh⟩ := hI
      subst haa hn' hh
      rw [B11_1_eq]
      unfold B11_1
      rw [e0, e13, e14]
      by_cases hlt : j < i
      · repeat (first
          | (refine ow_rem_nn (by omega) (by omega) ?_)
          | (refine cal (derive_ev (gs j) (Ts j) (((j : Int) - 1) % 2) ((j : Int) - 1) ((j : Int) % 2) (j : Int) 3 _) ?_)
          | (rw [ch_derive j (by omega) (by omega), treeH_treeH])
          | (refine cw_t ?_)
          | (refine cw_f ?_)
          | (refine gw_run ?_)
          | (refine gw_tf ?_)
          | (refine gw_ft ?_)
          | (refine gw_un ?_)
          | (refine ow_pick_t ?_)
          | (refine ow_pick_f ?_)
          | (refine ow_new ?_)
          | (refine ow_nck_p ?_)
          | (refine ow_nck_i ?_)
          | (refine ow_nck_f ?_)
          | (refine ow_mki ?_)
          | (refine ow_fa rfl ?_)
          | (refine ow_ext rfl ?_)
          | (refine ow_not rfl ?_)
          | (refine ow_peq_pn rfl ?_)
          | (refine ow_peq_nn rfl ?_)
          | (refine ow_peq_np rfl ?_)
          | (refine ow_ieq_in rfl ?_)
          | (refine ow_ieq_nn rfl ?_)
          | (refine ow_ieq_ni rfl ?_)
          | (refine ow_mkf rfl rfl ?_)
          | (refine ow_box (by first | (simp only [cellsA]; rfl) | rfl) ?_)
          | (refine ow_len rfl ?_)
          | (refine ow_lss_t (by omega) ?_)
          | (refine ow_lss_f (by omega) ?_)
          | (refine ow_leq_t (by omega) ?_)
          | (refine ow_leq_f (by omega) ?_)
          | (refine ow_gtr_t (by omega) ?_)
          | (refine ow_gtr_f (by omega) ?_)
          | (refine ow_geq_t (by omega) ?_)
          | (refine ow_geq_f (by omega) ?_)
          | (refine ow_eql_t (by omega) ?_)
          | (refine ow_eql_f (by omega) ?_)
          | (refine ow_neq_t (by omega) ?_)
          | (refine ow_neq_f (by omega) ?_)
          | (refine ow_add_i rfl (by omega) (by omega) ?_)
          | (refine ow_sub_i rfl (by omega) (by omega) ?_)
          | (refine ow_conv_i (by omega) (by omega) ?_)
          | (refine ow_conv_u (by omega) (by omega) ?_)
          | (refine ow_iaA (by omega) (by omega) rfl ?_)
          | (refine ow_iaS (by omega) (by omega) rfl ?_)
          | (refine ow_ld (by repeat (first | exact upd_same _ _ _ | assumption | refine upd_get (by omega) ?_)) (by first | exact part_all rfl | rfl | (simp only [partA, if_true, List.drop_succ_cons, List.drop_zero, List.take_succ_cons, List.take_zero, List.length_cons, List.length_nil, Nat.reduceAdd, Nat.zero_add]; rfl)) ?_)
          | (refine ow_st (by repeat (first | exact upd_same _ _ _ | assumption | refine upd_get (by omega) ?_)) (by first | (simp only [cellsA]; rfl) | rfl) rfl (by first | (simp; done) | exact Nat.le_refl _) rfl (by first | exact splice_all rfl | (simp only [splice, List.take_succ_cons, List.take_zero, List.drop_succ_cons, List.drop_zero, List.length_cons, List.length_nil, List.cons_append, List.nil_append, Nat.reduceAdd, Nat.zero_add, Nat.add_zero]; rfl)) ?_)
          | (refine ow_build (by simp only [repl, List.append_nil, fillA, List.map, ev, cellsA, splice, List.take_succ_cons, List.take_zero, List.drop_succ_cons, List.drop_zero, List.length_cons, List.length_nil, List.cons_append, List.nil_append, Nat.reduceAdd, Nat.zero_add, Nat.add_zero, true_and, and_self, if_true, Nat.reduceLeDiff, Nat.le_refl]; rfl) ?_)
          | (refine ow_bsl (by simp only [repl, List.append_nil, fillA, List.map, ev, cellsA, splice, List.take_succ_cons, List.take_zero, List.drop_succ_cons, List.drop_zero, List.length_cons, List.length_nil, List.cons_append, List.nil_append, Nat.reduceAdd, Nat.zero_add, Nat.add_zero, true_and, and_self, if_true, Nat.reduceLeDiff, Nat.le_refl]; rfl) ?_)
          | (refine ldR_of (by repeat (first | exact upd_same _ _ _ | assumption | refine upd_get (by omega) ?_)) (by first | exact part_all rfl | rfl | (simp only [partA, if_true, List.drop_succ_cons, List.drop_zero, List.take_succ_cons, List.take_zero, List.length_cons, List.length_nil, Nat.reduceAdd, Nat.zero_add]; rfl)) ?_)
          | (refine dow_ld (by repeat (first | exact upd_same _ _ _ | assumption | refine upd_get (by omega) ?_)) (by first | exact part_all rfl | rfl | (simp only [partA, if_true, List.drop_succ_cons, List.drop_zero, List.take_succ_cons, List.take_zero, List.length_cons, List.length_nil, Nat.reduceAdd, Nat.zero_add]; rfl)) (by simp only [meets, and_true]; (try (repeat' apply And.intro)); all_goals (intro z; simp only [fp_d, fp_f, List.mem_cons, List.not_mem_nil, or_false, false_or, not_false_eq_true, true_and, and_true, Bool.false_eq_true, false_and, not_or]; omega)) ?_)
          | (refine dow_new (by simp only [meets, and_true]; (try (repeat' apply And.intro)); all_goals (intro z; simp only [fp_d, fp_f, List.mem_cons, List.not_mem_nil, or_false, false_or, not_false_eq_true, true_and, and_true, Bool.false_eq_true, false_and, not_or]; omega)) ?_)
          | (refine dow_box (by first | (simp only [cellsA]; rfl) | rfl) (by simp only [meets, and_true]; (try (repeat' apply And.intro)); all_goals (intro z; simp only [fp_d, fp_f, List.mem_cons, List.not_mem_nil, or_false, false_or, not_false_eq_true, true_and, and_true, Bool.false_eq_true, false_and, not_or]; omega)) ?_)
          | (refine dow_st (by repeat (first | exact upd_same _ _ _ | assumption | refine upd_get (by omega) ?_)) (by first | (simp only [cellsA]; rfl) | rfl) rfl (by first | (simp; done) | exact Nat.le_refl _) rfl (by first | exact splice_all rfl | (simp only [splice, List.take_succ_cons, List.take_zero, List.drop_succ_cons, List.drop_zero, List.length_cons, List.length_nil, List.cons_append, List.nil_append, Nat.reduceAdd, Nat.zero_add, Nat.add_zero]; rfl)) (by simp only [meets, and_true]; (try (repeat' apply And.intro)); all_goals (intro z; simp only [fp_d, fp_f, List.mem_cons, List.not_mem_nil, or_false, false_or, not_false_eq_true, true_and, and_true, Bool.false_eq_true, false_and, not_or]; omega)) ?_)
          | (refine dgw_run ?_)
          | (refine dgw_tf ?_)
          | (refine dgw_ft ?_)
          | (refine dgw_un ?_))
        exact ⟨i - (j + 1), by omega, _, j + 1, rfl, e0, e1, e12, e13, rfl, by omega, by omega, rfl, rfl, rfl⟩
      · have hji : j = i := by omega
        subst hji
        repeat (first
          | (refine cw_t ?_)
          | (refine cw_f ?_)
          | (refine gw_run ?_)
          | (refine gw_tf ?_)
          | (refine gw_ft ?_)
          | (refine gw_un ?_)
          | (refine ow_pick_t ?_)
          | (refine ow_pick_f ?_)
          | (refine ow_new ?_)
          | (refine ow_nck_p ?_)
          | (refine ow_nck_i ?_)
          | (refine ow_nck_f ?_)
          | (refine ow_mki ?_)
          | (refine ow_fa rfl ?_)
          | (refine ow_ext rfl ?_)
          | (refine ow_not rfl ?_)
          | (refine ow_peq_pn rfl ?_)
          | (refine ow_peq_nn rfl ?_)
          | (refine ow_peq_np rfl ?_)
          | (refine ow_ieq_in rfl ?_)
          | (refine ow_ieq_nn rfl ?_)
          | (refine ow_ieq_ni rfl ?_)
          | (refine ow_mkf rfl rfl ?_)
          | (refine ow_box (by first | (simp only [cellsA]; rfl) | rfl) ?_)
          | (refine ow_len rfl ?_)
          | (refine ow_lss_t (by omega) ?_)
          | (refine ow_lss_f (by omega) ?_)
          | (refine ow_leq_t (by omega) ?_)
          | (refine ow_leq_f (by omega) ?_)
          | (refine ow_gtr_t (by omega) ?_)
          | (refine ow_gtr_f (by omega) ?_)
          | (refine ow_geq_t (by omega) ?_)
          | (refine ow_geq_f (by omega) ?_)
          | (refine ow_eql_t (by omega) ?_)
          | (refine ow_eql_f (by omega) ?_)
          | (refine ow_neq_t (by omega) ?_)
          | (refine ow_neq_f (by omega) ?_)
          | (refine ow_add_i rfl (by omega) (by omega) ?_)
          | (refine ow_sub_i rfl (by omega) (by omega) ?_)
          | (refine ow_conv_i (by omega) (by omega) ?_)
          | (refine ow_conv_u (by omega) (by omega) ?_)
          | (refine ow_iaA (by omega) (by omega) rfl ?_)
          | (refine ow_iaS (by omega) (by omega) rfl ?_)
          | (refine ow_ld (by repeat (first | exact upd_same _ _ _ | assumption | refine upd_get (by omega) ?_)) (by first | exact part_all rfl | rfl | (simp only [partA, if_true, List.drop_succ_cons, List.drop_zero, List.take_succ_cons, List.take_zero, List.length_cons, List.length_nil, Nat.reduceAdd, Nat.zero_add]; rfl)) ?_)
          | (refine ow_st (by repeat (first | exact upd_same _ _ _ | assumption | refine upd_get (by omega) ?_)) (by first | (simp only [cellsA]; rfl) | rfl) rfl (by first | (simp; done) | exact Nat.le_refl _) rfl (by first | exact splice_all rfl | (simp only [splice, List.take_succ_cons, List.take_zero, List.drop_succ_cons, List.drop_zero, List.length_cons, List.length_nil, List.cons_append, List.nil_append, Nat.reduceAdd, Nat.zero_add, Nat.add_zero]; rfl)) ?_)
          | (refine ow_build (by simp only [repl, List.append_nil, fillA, List.map, ev, cellsA, splice, List.take_succ_cons, List.take_zero, List.drop_succ_cons, List.drop_zero, List.length_cons, List.length_nil, List.cons_append, List.nil_append, Nat.reduceAdd, Nat.zero_add, Nat.add_zero, true_and, and_self, if_true, Nat.reduceLeDiff, Nat.le_refl]; rfl) ?_)
          | (refine ow_bsl (by simp only [repl, List.append_nil, fillA, List.map, ev, cellsA, splice, List.take_succ_cons, List.take_zero, List.drop_succ_cons, List.drop_zero, List.length_cons, List.length_nil, List.cons_append, List.nil_append, Nat.reduceAdd, Nat.zero_add, Nat.add_zero, true_and, and_self, if_true, Nat.reduceLeDiff, Nat.le_refl]; rfl) ?_)
          | (refine ldR_of (by repeat (first | exact upd_same _ _ _ | assumption | refine upd_get (by omega) ?_)) (by first | exact part_all rfl | rfl | (simp only [partA, if_true, List.drop_succ_cons, List.drop_zero, List.take_succ_cons, List.take_zero, List.length_cons, List.length_nil, Nat.reduceAdd, Nat.zero_add]; rfl)) ?_)
          | (refine dow_ld (by repeat (first | exact upd_same _ _ _ | assumption | refine upd_get (by omega) ?_)) (by first | exact part_all rfl | rfl | (simp only [partA, if_true, List.drop_succ_cons, List.drop_zero, List.take_succ_cons, List.take_zero, List.length_cons, List.length_nil, Nat.reduceAdd, Nat.zero_add]; rfl)) (by simp only [meets, and_true]; (try (repeat' apply And.intro)); all_goals (intro z; simp only [fp_d, fp_f, List.mem_cons, List.not_mem_nil, or_false, false_or, not_false_eq_true, true_and, and_true, Bool.false_eq_true, false_and, not_or]; omega)) ?_)
          | (refine dow_new (by simp only [meets, and_true]; (try (repeat' apply And.intro)); all_goals (intro z; simp only [fp_d, fp_f, List.mem_cons, List.not_mem_nil, or_false, false_or, not_false_eq_true, true_and, and_true, Bool.false_eq_true, false_and, not_or]; omega)) ?_)
          | (refine dow_box (by first | (simp only [cellsA]; rfl) | rfl) (by simp only [meets, and_true]; (try (repeat' apply And.intro)); all_goals (intro z; simp only [fp_d, fp_f, List.mem_cons, List.not_mem_nil, or_false, false_or, not_false_eq_true, true_and, and_true, Bool.false_eq_true, false_and, not_or]; omega)) ?_)
          | (refine dow_st (by repeat (first | exact upd_same _ _ _ | assumption | refine upd_get (by omega) ?_)) (by first | (simp only [cellsA]; rfl) | rfl) rfl (by first | (simp; done) | exact Nat.le_refl _) rfl (by first | exact splice_all rfl | (simp only [splice, List.take_succ_cons, List.take_zero, List.drop_succ_cons, List.drop_zero, List.length_cons, List.length_nil, List.cons_append, List.nil_append, Nat.reduceAdd, Nat.zero_add, Nat.add_zero]; rfl)) (by simp only [meets, and_true]; (try (repeat' apply And.intro)); all_goals (intro z; simp only [fp_d, fp_f, List.mem_cons, List.not_mem_nil, or_false, false_or, not_false_eq_true, true_and, and_true, Bool.false_eq_true, false_and, not_or]; omega)) ?_)
          | (refine dgw_run ?_)
          | (refine dgw_tf ?_)
          | (refine dgw_ft ?_)
          | (refine dgw_un ?_))
        rw [loopK_exit, X11_1_2_eq]
        generalize hg4 : ug gg _ = g4
        have u0 : g4 0 = .int .i64 (j : Int) := (congrFun hg4 0).symm.trans e0
        have u1 : g4 1 = .int .i64 (a : Int) := (congrFun hg4 1).symm.trans e1
        have u12 : g4 12 = .int .i64 ((j : Int) - 1 - (a : Int)) := (congrFun hg4 12).symm.trans e12
        have u13 : g4 13 = .ptr (n4 + 1) 0 := (congrFun hg4 13).symm.trans e13
        unfold X11_1_2
        rw [u1, u12, u13]
        obtain ⟨v5, h5, n5, hf5, b5, hv5, G5⟩ := callW_elim (drop_ev (gs j) (Ts j) (by omega) R ((a : Int) % 2) (a : Int))
        have T6 : TreeAt h5 (n4 + 1) n4 2 (chD j a) := (Ts j).grown2 (gs j) G5
        have l5 : (dropL 2 (chL j) ((a : Int) % 2) (a : Int)).length = j - a := by omega
        rw [f4, l5] at hv5
        subst hv5
        repeat (first
          | (refine cal hf5 ?_)
          | (refine ow_len (lenA_slV _ _) ?_)
          | (refine ow_rem_nn (by omega) (by omega) ?_)
          | (refine cw_t ?_)
          | (refine cw_f ?_)
          | (refine gw_run ?_)
          | (refine gw_tf ?_)
          | (refine gw_ft ?_)
          | (refine gw_un ?_)
          | (refine ow_pick_t ?_)
          | (refine ow_pick_f ?_)
          | (refine ow_new ?_)
          | (refine ow_nck_p ?_)
          | (refine ow_nck_i ?_)
          | (refine ow_nck_f ?_)
          | (refine ow_mki ?_)
          | (refine ow_fa rfl ?_)
          | (refine ow_ext rfl ?_)
          | (refine ow_not rfl ?_)
          | (refine ow_peq_pn rfl ?_)
          | (refine ow_peq_nn rfl ?_)
          | (refine ow_peq_np rfl ?_)
          | (refine ow_ieq_in rfl ?_)
          | (refine ow_ieq_nn rfl ?_)
          | (refine ow_ieq_ni rfl ?_)
          | (refine ow_mkf rfl rfl ?_)
          | (refine ow_box (by first | (simp only [cellsA]; rfl) | rfl) ?_)
          | (refine ow_len rfl ?_)
          | (refine ow_lss_t (by omega) ?_)
          | (refine ow_lss_f (by omega) ?_)
          | (refine ow_leq_t (by omega) ?_)
          | (refine ow_leq_f (by omega) ?_)
          | (refine ow_gtr_t (by omega) ?_)
          | (refine ow_gtr_f (by omega) ?_)
          | (refine ow_geq_t (by omega) ?_)
          | (refine ow_geq_f (by omega) ?_)
          | (refine ow_eql_t (by omega) ?_)
          | (refine ow_eql_f (by omega) ?_)
          | (refine ow_neq_t (by omega) ?_)
          | (refine ow_neq_f (by omega) ?_)
          | (refine ow_add_i rfl (by omega) (by omega) ?_)
          | (refine ow_sub_i rfl (by omega) (by omega) ?_)
          | (refine ow_conv_i (by omega) (by omega) ?_)
          | (refine ow_conv_u (by omega) (by omega) ?_)
          | (refine ow_iaA (by omega) (by omega) rfl ?_)
          | (refine ow_iaS (by omega) (by omega) rfl ?_)
          | (refine ow_ld (by repeat (first | exact upd_same _ _ _ | assumption | refine upd_get (by omega) ?_)) (by first | exact part_all rfl | rfl | (simp only [partA, if_true, List.drop_succ_cons, List.drop_zero, List.take_succ_cons, List.take_zero, List.length_cons, List.length_nil, Nat.reduceAdd, Nat.zero_add]; rfl)) ?_)
          | (refine ow_st (by repeat (first | exact upd_same _ _ _ | assumption | refine upd_get (by omega) ?_)) (by first | (simp only [cellsA]; rfl) | rfl) rfl (by first | (simp; done) | exact Nat.le_refl _) rfl (by first | exact splice_all rfl | (simp only [splice, List.take_succ_cons, List.take_zero, List.drop_succ_cons, List.drop_zero, List.length_cons, List.length_nil, List.cons_append, List.nil_append, Nat.reduceAdd, Nat.zero_add, Nat.add_zero]; rfl)) ?_)
          | (refine ow_build (by simp only [repl, List.append_nil, fillA, List.map, ev, cellsA, splice, List.take_succ_cons, List.take_zero, List.drop_succ_cons, List.drop_zero, List.length_cons, List.length_nil, List.cons_append, List.nil_append, Nat.reduceAdd, Nat.zero_add, Nat.add_zero, true_and, and_self, if_true, Nat.reduceLeDiff, Nat.le_refl]; rfl) ?_)
          | (refine ow_bsl (by simp only [repl, List.append_nil, fillA, List.map, ev, cellsA, splice, List.take_succ_cons, List.take_zero, List.drop_succ_cons, List.drop_zero, List.length_cons, List.length_nil, List.cons_append, List.nil_append, Nat.reduceAdd, Nat.zero_add, Nat.add_zero, true_and, and_self, if_true, Nat.reduceLeDiff, Nat.le_refl]; rfl) ?_)
          | (refine ldR_of (by repeat (first | exact upd_same _ _ _ | assumption | refine upd_get (by omega) ?_)) (by first | exact part_all rfl | rfl | (simp only [partA, if_true, List.drop_succ_cons, List.drop_zero, List.take_succ_cons, List.take_zero, List.length_cons, List.length_nil, Nat.reduceAdd, Nat.zero_add]; rfl)) ?_)
          | (refine dow_ld (by repeat (first | exact upd_same _ _ _ | assumption | refine upd_get (by omega) ?_)) (by first | exact part_all rfl | rfl | (simp only [partA, if_true, List.drop_succ_cons, List.drop_zero, List.take_succ_cons, List.take_zero, List.length_cons, List.length_nil, Nat.reduceAdd, Nat.zero_add]; rfl)) (by simp only [meets, and_true]; (try (repeat' apply And.intro)); all_goals (intro z; simp only [fp_d, fp_f, List.mem_cons, List.not_mem_nil, or_false, false_or, not_false_eq_true, true_and, and_true, Bool.false_eq_true, false_and, not_or]; omega)) ?_)
          | (refine dow_new (by simp only [meets, and_true]; (try (repeat' apply And.intro)); all_goals (intro z; simp only [fp_d, fp_f, List.mem_cons, List.not_mem_nil, or_false, false_or, not_false_eq_true, true_and, and_true, Bool.false_eq_true, false_and, not_or]; omega)) ?_)
          | (refine dow_box (by first | (simp only [cellsA]; rfl) | rfl) (by simp only [meets, and_true]; (try (repeat' apply And.intro)); all_goals (intro z; simp only [fp_d, fp_f, List.mem_cons, List.not_mem_nil, or_false, false_or, not_false_eq_true, true_and, and_true, Bool.false_eq_true, false_and, not_or]; omega)) ?_)
          | (refine dow_st (by repeat (first | exact upd_same _ _ _ | assumption | refine upd_get (by omega) ?_)) (by first | (simp only [cellsA]; rfl) | rfl) rfl (by first | (simp; done) | exact Nat.le_refl _) rfl (by first | exact splice_all rfl | (simp only [splice, List.take_succ_cons, List.take_zero, List.drop_succ_cons, List.drop_zero, List.length_cons, List.length_nil, List.cons_append, List.nil_append, Nat.reduceAdd, Nat.zero_add, Nat.add_zero]; rfl)) (by simp only [meets, and_true]; (try (repeat' apply And.intro)); all_goals (intro z; simp only [fp_d, fp_f, List.mem_cons, List.not_mem_nil, or_false, false_or, not_false_eq_true, true_and, and_true, Bool.false_eq_true, false_and, not_or]; omega)) ?_)
          | (refine dgw_run ?_)
          | (refine dgw_tf ?_)
          | (refine dgw_ft ?_)
          | (refine dgw_un ?_))
        have hg' : AV.int .i64 ((j : Int) - 1 - (a : Int) + 1) = AV.int .i64 ((j : Int) - ((a : Nat) : Int)) := by congr 1; omega
        exact ch_tail (z := a) G5.good T6 (by omega) (by omega) (fun k hk => (f9 k hk).2) f8 _ u0 rfl hg' rfl
end Go.Proofs.As0
