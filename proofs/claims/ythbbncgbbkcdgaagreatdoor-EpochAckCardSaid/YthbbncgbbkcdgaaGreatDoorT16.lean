/- Functions of the program, as they are to be shown: printed by Gen.lean. -/
import Derived.Test.YthbbncgbbkcdgaaGreatDoorT14
import Derived.Test.YthbbncgbbkcdgaaGreatDoorT15
set_option linter.unusedSimpArgs false
set_option linter.unusedVariables false
set_option linter.unnecessarySimpa false
namespace Go.Proofs.As0
open Go Go.Eng
/-! ### 28: messuage/epoch.New -/
noncomputable def W28 (t0 : AV) (h : Heap) (n : Nat) (K : KT) : Prop :=
 opW Tryz.prog (.bin .lss (.c t0) (.c (.int .i64 1))) h n fun t4 h n =>
 grdW t4 false (fun k => k t0 h n) h n fun t6 h n =>
 grdW t4 false (opW Tryz.prog (.bin .gtr (.c t6) (.c (.int .i64 8))) h n) h n fun t7 h n =>
 opW Tryz.prog (.pick (.c t4) (.c (.bool true)) (.c t7)) h n fun t8 h n =>
 cndW t8
  (K .nilp h n)
  (opW Tryz.prog (.mks 1 8 [(.int .u64 0)] (.c t0) (.c t0)) h n fun t10 h n =>
  opW Tryz.prog (.build [.nilsl, .nilsl] [(1, 1, (.c t10))]) h n fun t11 h n =>
  opW Tryz.prog (.box (.c t11)) h n fun t12 h n =>
  K t12 h n)
theorem W28_eq (t0 : AV) (h : Heap) (n : Nat) (K : KT) : wpF Tryz.prog 28 [t0] h n K = W28 t0 h n K := by kernel_rfl
theorem W28_ok {t0 : AV} {h : Heap} {n : Nat} {K : KT} (hk : W28 t0 h n K) : callW Tryz.prog 28 [t0] h n K := callW_of_wpF mixed (by rw [W28_eq]; exact hk)
/-! ### 82: (*messuage/epoch.Epochs).Now -/
noncomputable def W82 (t0 : AV) (h : Heap) (n : Nat) (K : KT) : Prop :=
 opW Tryz.prog (.peq false (.c t0) (.c .nilp)) h n fun t4 h n =>
 cndW t4
  (K (.int .u64 0) h n)
  (opW Tryz.prog (.nck (.c t0)) h n fun t6 h n =>
  opW Tryz.prog (.fa 0 (.c t6)) h n fun t7 h n =>
  opW Tryz.prog (.ld false 1 (.c t7)) h n fun t8 h n =>
  opW Tryz.prog (.len (.c t8)) h n fun t9 h n =>
  opW Tryz.prog (.conv .u64 (.c t9)) h n fun t10 h n =>
  K t10 h n)
theorem W82_eq (t0 : AV) (h : Heap) (n : Nat) (K : KT) : wpF Tryz.prog 82 [t0] h n K = W82 t0 h n K := by kernel_rfl
theorem W82_ok {t0 : AV} {h : Heap} {n : Nat} {K : KT} (hk : W82 t0 h n K) : callW Tryz.prog 82 [t0] h n K := callW_of_wpF mixed (by rw [W82_eq]; exact hk)
/-! ### 103: (*messuage/epoch.Epochs).is -/
noncomputable def W103 (t0 t1 : AV) (h : Heap) (n : Nat) (K : KT) : Prop :=
 opW Tryz.prog (.peq true (.c t0) (.c .nilp)) h n fun t6 h n =>
 grdW t6 true (fun k => k t1 h n) h n fun t8 h n =>
 grdW t6 true (opW Tryz.prog (.bin .geq (.c t8) (.c (.int .i64 0))) h n) h n fun t9 h n =>
 opW Tryz.prog (.pick (.c t6) (.c t9) (.c (.bool false))) h n fun t10 h n =>
 grdW t10 true (fun k => k t1 h n) h n fun t12 h n =>
 grdW t10 true (fun k => k t0 h n) h n fun t13 h n =>
 grdW t10 true (opW Tryz.prog (.nck (.c t13)) h n) h n fun t14 h n =>
 grdW t10 true (opW Tryz.prog (.fa 1 (.c t14)) h n) h n fun t15 h n =>
 grdW t10 true (opW Tryz.prog (.ld false 1 (.c t15)) h n) h n fun t16 h n =>
 grdW t10 true (opW Tryz.prog (.len (.c t16)) h n) h n fun t17 h n =>
 grdW t10 true (opW Tryz.prog (.bin .lss (.c t12) (.c t17)) h n) h n fun t18 h n =>
 opW Tryz.prog (.pick (.c t10) (.c t18) (.c (.bool false))) h n fun t19 h n =>
 K t19 h n
theorem W103_eq (t0 t1 : AV) (h : Heap) (n : Nat) (K : KT) : wpF Tryz.prog 103 [t0, t1] h n K = W103 t0 t1 h n K := by kernel_rfl
theorem W103_ok {t0 t1 : AV} {h : Heap} {n : Nat} {K : KT} (hk : W103 t0 t1 h n K) : callW Tryz.prog 103 [t0, t1] h n K := callW_of_wpF mixed (by rw [W103_eq]; exact hk)
/-! ### 29: (*messuage/epoch.Epochs).Begin -/
noncomputable def W29 (t0 t1 : AV) (h : Heap) (n : Nat) (K : KT) : Prop :=
 callW Tryz.prog 103 [t0, t1] h n fun t8 h n =>
 opW Tryz.prog (.un .not (.c t8)) h n fun t9 h n =>
 cndW t9
  (K (.tup [(.int .u64 0), (.bool false)]) h n)
  (opW Tryz.prog (.nck (.c t0)) h n fun t12 h n =>
  opW Tryz.prog (.fa 0 (.c t12)) h n fun t13 h n =>
  opW Tryz.prog (.ld false 1 (.c t13)) h n fun t14 h n =>
  opW Tryz.prog (.bsl 1 [(.int .i64 0)] 1 [(0, 1, (.c t1))]) h n fun t16 h n =>
  opW Tryz.prog (.app 1 8 (.c t14) (.c t16)) h n fun t17 h n =>
  opW Tryz.prog (.nck (.c t0)) h n fun t18 h n =>
  opW Tryz.prog (.fa 0 (.c t18)) h n fun t19 h n =>
  opW Tryz.prog (.st 1 (.c t19) (.c t17)) h n fun _ h n =>
  callW Tryz.prog 82 [t0] h n fun t21 h n =>
  K (.tup [t21, (.bool true)]) h n)
theorem W29_eq (t0 t1 : AV) (h : Heap) (n : Nat) (K : KT) : wpF Tryz.prog 29 [t0, t1] h n K = W29 t0 t1 h n K := by kernel_rfl
theorem W29_ok {t0 t1 : AV} {h : Heap} {n : Nat} {K : KT} (hk : W29 t0 t1 h n K) : callW Tryz.prog 29 [t0, t1] h n K := callW_of_wpF mixed (by rw [W29_eq]; exact hk)
/-! ### 30: (*messuage/epoch.Epochs).Ack -/
noncomputable def W30 (t0 t1 t2 : AV) (h : Heap) (n : Nat) (K : KT) : Prop :=
 callW Tryz.prog 103 [t0, t1] h n fun t9 h n =>
 opW Tryz.prog (.un .not (.c t9)) h n fun t10 h n =>
 grdW t10 false (fun k => k t2 h n) h n fun t12 h n =>
 grdW t10 false (opW Tryz.prog (.bin .lss (.c t12) (.c (.int .u64 1))) h n) h n fun t13 h n =>
 opW Tryz.prog (.pick (.c t10) (.c (.bool true)) (.c t13)) h n fun t14 h n =>
 grdW t14 false (fun k => k t2 h n) h n fun t16 h n =>
 grdW t14 false (fun k => k t0 h n) h n fun t17 h n =>
 grdW t14 false (callW Tryz.prog 82 [t17] h n) h n fun t18 h n =>
 grdW t14 false (opW Tryz.prog (.bin .gtr (.c t16) (.c t18)) h n) h n fun t19 h n =>
 opW Tryz.prog (.pick (.c t14) (.c (.bool true)) (.c t19)) h n fun t20 h n =>
 cndW t20
  (K (.bool false) h n)
  (opW Tryz.prog (.nck (.c t0)) h n fun t22 h n =>
  opW Tryz.prog (.fa 1 (.c t22)) h n fun t23 h n =>
  dopW Tryz.prog 3 (.ld false 1 (.c t23)) h n [] fun t24 h n p3 =>
  opW Tryz.prog (.nck (.c t0)) h n fun t27 h n =>
  opW Tryz.prog (.fa 1 (.c t27)) h n fun t28 h n =>
  dopW Tryz.prog 8 (.ld false 1 (.c t28)) h n [p3] fun t29 h n p8 =>
  opW Tryz.prog (.iaS 1 (.c t29) (.c t1)) h n fun t31 h n =>
  dopW Tryz.prog 11 (.ld false 1 (.c t31)) h n [p3] fun t32 h n p11 =>
  opW Tryz.prog (.mx [(.c t32), (.c t2)]) h n fun t34 h n =>
  opW Tryz.prog (.iaS 1 (.c t24) (.c t1)) h n fun t35 h n =>
  dopW Tryz.prog 15 (.st 1 (.c t35) (.c t34)) h n [] fun _ h n p15 =>
  K (.bool true) h n)
theorem W30_eq (t0 t1 t2 : AV) (h : Heap) (n : Nat) (K : KT) : wpF Tryz.prog 30 [t0, t1, t2] h n K = W30 t0 t1 t2 h n K := by kernel_rfl
theorem W30_ok {t0 t1 t2 : AV} {h : Heap} {n : Nat} {K : KT} (hk : W30 t0 t1 t2 h n K) : callW Tryz.prog 30 [t0, t1, t2] h n K := callW_of_wpF mixed (by rw [W30_eq]; exact hk)
/-! ### 31: (*messuage/epoch.Epochs).Waits -/
/-- The loop 0's body. -/
noncomputable def B31_0 (κ : KC) (g : Nat → AV) (h : Heap) (n : Nat) : Prop :=
 opW Tryz.prog (.bin .lss (.c (g 21)) (.c (g 20))) h n fun t22 h n =>
 cndW t22
  (opW Tryz.prog (.iaS 1 (.c (g 19)) (.c (g 21))) h n fun t24 h n =>
  opW Tryz.prog (.ld false 1 (.c t24)) h n fun t25 h n =>
  opW Tryz.prog (.bin .lss (.c t25) (.c (g 1))) h n fun t28 h n =>
  grdW t28 true (fun k => k (g 0) h n) h n fun t30 h n =>
  grdW t28 true (opW Tryz.prog (.nck (.c t30)) h n) h n fun t31 h n =>
  grdW t28 true (opW Tryz.prog (.fa 0 (.c t31)) h n) h n fun t32 h n =>
  grdW t28 true (opW Tryz.prog (.ld false 1 (.c t32)) h n) h n fun t33 h n =>
  grdW t28 true (fun k => k (g 1) h n) h n fun t34 h n =>
  grdW t28 true (opW Tryz.prog (.bin .sub (.c t34) (.c (.int .u64 1))) h n) h n fun t35 h n =>
  grdW t28 true (opW Tryz.prog (.iaS 1 (.c t33) (.c t35)) h n) h n fun t36 h n =>
  grdW t28 true (opW Tryz.prog (.ld false 1 (.c t36)) h n) h n fun t37 h n =>
  grdW t28 true (fun k => k (g 21) h n) h n fun t38 h n =>
  grdW t28 true (opW Tryz.prog (.bin .neq (.c t37) (.c t38)) h n) h n fun t39 h n =>
  opW Tryz.prog (.pick (.c t28) (.c t39) (.c (.bool false))) h n fun t40 h n =>
  cndW t40
   (opW Tryz.prog (.bsl 1 [(.int .i64 0)] 1 [(0, 1, (.c (g 21)))]) h n fun t43 h n =>
   opW Tryz.prog (.app 1 8 (.c (g 5)) (.c t43)) h n fun t44 h n =>
   opW Tryz.prog (.bin .add (.c (g 21)) (.c (.int .i64 1))) h n fun t45 h n =>
   κ .normal (tl 47 (ug g [(21, t45), (45, t45), (5, t44), (44, t44), (43, t43), (42, (g 21)), (41, (g 5)), (40, t40), (39, t39), (38, t38), (37, t37), (36, t36), (35, t35), (34, t34), (33, t33), (32, t32), (31, t31), (30, t30), (29, t28), (28, t28), (27, (g 1)), (26, t25), (7, t25), (6, (g 21)), (25, t25), (24, t24), (23, (g 21)), (22, t22)])) h n)
   (opW Tryz.prog (.bin .add (.c (g 21)) (.c (.int .i64 1))) h n fun t45_0 h n =>
   κ .normal (tl 47 (ug g [(21, t45_0), (45, t45_0), (40, t40), (39, t39), (38, t38), (37, t37), (36, t36), (35, t35), (34, t34), (33, t33), (32, t32), (31, t31), (30, t30), (29, t28), (28, t28), (27, (g 1)), (26, t25), (7, t25), (6, (g 21)), (25, t25), (24, t24), (23, (g 21)), (22, t22)])) h n))
  (κ (.exit 0) (tl 47 (ug g [(22, t22)])) h n)
theorem B31_0_eq (κ : KC) (g : Nat → AV) (h : Heap) (n : Nat) : wpC Tryz.prog (cAt [1, 1, 1, 0, 1, 0, 0] (bodyOf Tryz.prog 31)) κ (tl 47 g) h n = B31_0 κ g h n := by kernel_rfl
noncomputable def k31_0 (κ : KC) : KC := thenK (fun a h n => wpC Tryz.prog (cAt [1, 1, 1, 1] (bodyOf Tryz.prog 31)) κ a h n) κ
/-- Behind the loop 0, by its exit 0. -/
noncomputable def X31_0_0 (K : KT) (g : Nat → AV) (h : Heap) (n : Nat) : Prop :=
 K (g 5) h n
theorem X31_0_0_eq (K : KT) (g : Nat → AV) (h : Heap) (n : Nat) : (blockK 0 (k31_0 (retK Tryz.prog (resOf Tryz.prog 31) K))) (.exit 0) (tl 47 g) h n = X31_0_0 K g h n := by kernel_rfl
noncomputable def W31 (t0 t1 : AV) (h : Heap) (n : Nat) (K : KT) : Prop :=
 opW Tryz.prog (.bin .lss (.c t1) (.c (.int .u64 1))) h n fun t9 h n =>
 grdW t9 false (fun k => k t1 h n) h n fun t11 h n =>
 grdW t9 false (fun k => k t0 h n) h n fun t12 h n =>
 grdW t9 false (callW Tryz.prog 82 [t12] h n) h n fun t13 h n =>
 grdW t9 false (opW Tryz.prog (.bin .gtr (.c t11) (.c t13)) h n) h n fun t14 h n =>
 opW Tryz.prog (.pick (.c t9) (.c (.bool true)) (.c t14)) h n fun t15 h n =>
 cndW t15
  (K .nilsl h n)
  (opW Tryz.prog (.nck (.c t0)) h n fun t17 h n =>
  opW Tryz.prog (.fa 1 (.c t17)) h n fun t18 h n =>
  opW Tryz.prog (.ld false 1 (.c t18)) h n fun t19 h n =>
  opW Tryz.prog (.len (.c t19)) h n fun t20 h n =>
  loopW Tryz.prog (cAt [1, 1, 1, 0, 1, 0, 0] (bodyOf Tryz.prog 31)) ((blockK 0 (k31_0 (retK Tryz.prog (resOf Tryz.prog 31) K)))) (tl 47 (gl [t0, t1, undefA, undefA, .nilsl, .nilsl, undefA, undefA, t1, t9, t9, t11, t12, t13, t14, t15, t0, t17, t18, t19, t20, (.int .i64 0)])) h n)
theorem W31_eq (t0 t1 : AV) (h : Heap) (n : Nat) (K : KT) : wpF Tryz.prog 31 [t0, t1] h n K = W31 t0 t1 h n K := by kernel_rfl
theorem W31_ok {t0 t1 : AV} {h : Heap} {n : Nat} {K : KT} (hk : W31 t0 t1 h n K) : callW Tryz.prog 31 [t0, t1] h n K := callW_of_wpF mixed (by rw [W31_eq]; exact hk)
/-! ### 32: (*messuage/epoch.Epochs).Done -/
noncomputable def W32 (t0 t1 : AV) (h : Heap) (n : Nat) (K : KT) : Prop :=
 opW Tryz.prog (.bin .geq (.c t1) (.c (.int .u64 1))) h n fun t6 h n =>
 grdW t6 true (fun k => k t1 h n) h n fun t8 h n =>
 grdW t6 true (fun k => k t0 h n) h n fun t9 h n =>
 grdW t6 true (callW Tryz.prog 82 [t9] h n) h n fun t10 h n =>
 grdW t6 true (opW Tryz.prog (.bin .leq (.c t8) (.c t10)) h n) h n fun t11 h n =>
 opW Tryz.prog (.pick (.c t6) (.c t11) (.c (.bool false))) h n fun t12 h n =>
 grdW t12 true (fun k => k t0 h n) h n fun t14 h n =>
 grdW t12 true (fun k => k t1 h n) h n fun t15 h n =>
 grdW t12 true (callW Tryz.prog 31 [t14, t15] h n) h n fun t16 h n =>
 grdW t12 true (opW Tryz.prog (.len (.c t16)) h n) h n fun t17 h n =>
 grdW t12 true (opW Tryz.prog (.bin .eql (.c t17) (.c (.int .i64 0))) h n) h n fun t18 h n =>
 opW Tryz.prog (.pick (.c t12) (.c t18) (.c (.bool false))) h n fun t19 h n =>
 K t19 h n
theorem W32_eq (t0 t1 : AV) (h : Heap) (n : Nat) (K : KT) : wpF Tryz.prog 32 [t0, t1] h n K = W32 t0 t1 h n K := by kernel_rfl
theorem W32_ok {t0 t1 : AV} {h : Heap} {n : Nat} {K : KT} (hk : W32 t0 t1 h n K) : callW Tryz.prog 32 [t0, t1] h n K := callW_of_wpF mixed (by rw [W32_eq]; exact hk)
end Go.Proofs.As0
/- Functions of the program, as they are to be shown: printed by Gen.lean. -/
namespace Go.Proofs.As0
open Go Go.Eng
/-! ### 113: messuage/pte.May -/
noncomputable def W113 (t0 : AV) (h : Heap) (n : Nat) (K : KT) : Prop :=
 opW Tryz.prog (.bin .geq (.c t0) (.c (.int .i64 1))) h n fun t4 h n =>
 grdW t4 true (fun k => k t0 h n) h n fun t6 h n =>
 grdW t4 true (opW Tryz.prog (.bin .leq (.c t6) (.c (.int .i64 3))) h n) h n fun t7 h n =>
 opW Tryz.prog (.pick (.c t4) (.c t7) (.c (.bool false))) h n fun t8 h n =>
 K t8 h n
theorem W113_eq (t0 : AV) (h : Heap) (n : Nat) (K : KT) : wpF Tryz.prog 113 [t0] h n K = W113 t0 h n K := by kernel_rfl
theorem W113_ok {t0 : AV} {h : Heap} {n : Nat} {K : KT} (hk : W113 t0 h n K) : callW Tryz.prog 113 [t0] h n K := callW_of_wpF mixed (by rw [W113_eq]; exact hk)
/-! ### 117: messuage/pte.Within -/
noncomputable def W117 (t0 t1 : AV) (h : Heap) (n : Nat) (K : KT) : Prop :=
 callW Tryz.prog 113 [t0] h n fun t6 h n =>
 grdW t6 true (fun k => k t1 h n) h n fun t8 h n =>
 grdW t6 true (callW Tryz.prog 113 [t8] h n) h n fun t9 h n =>
 opW Tryz.prog (.pick (.c t6) (.c t9) (.c (.bool false))) h n fun t10 h n =>
 grdW t10 true (fun k => k t0 h n) h n fun t12 h n =>
 grdW t10 true (fun k => k t1 h n) h n fun t13 h n =>
 grdW t10 true (opW Tryz.prog (.bin .andNot (.c t12) (.c t13)) h n) h n fun t14 h n =>
 grdW t10 true (opW Tryz.prog (.bin .eql (.c t14) (.c (.int .i64 0))) h n) h n fun t15 h n =>
 opW Tryz.prog (.pick (.c t10) (.c t15) (.c (.bool false))) h n fun t16 h n =>
 K t16 h n
theorem W117_eq (t0 t1 : AV) (h : Heap) (n : Nat) (K : KT) : wpF Tryz.prog 117 [t0, t1] h n K = W117 t0 t1 h n K := by kernel_rfl
theorem W117_ok {t0 t1 : AV} {h : Heap} {n : Nat} {K : KT} (hk : W117 t0 t1 h n K) : callW Tryz.prog 117 [t0, t1] h n K := callW_of_wpF mixed (by rw [W117_eq]; exact hk)
/-! ### 158: messuage/pte.Lets -/
noncomputable def W158 (t0 t1 : AV) (h : Heap) (n : Nat) (K : KT) : Prop :=
 opW Tryz.prog (.bin .eql (.c t1) (.c (.int .i64 20))) h n fun t8 h n =>
 cndW t8
  (callW Tryz.prog 117 [(.int .i64 1), t0] h n fun t16 h n =>
  K t16 h n)
  (opW Tryz.prog (.bin .eql (.c t1) (.c (.int .i64 21))) h n fun t10 h n =>
  cndW t10
   (callW Tryz.prog 117 [(.int .i64 2), t0] h n fun t16_0 h n =>
   K t16_0 h n)
   (opW Tryz.prog (.bin .eql (.c t1) (.c (.int .i64 22))) h n fun t12 h n =>
   cndW t12
    (cndW t12
     (callW Tryz.prog 117 [(.int .i64 3), t0] h n fun t16_1 h n =>
     K t16_1 h n)
     (callW Tryz.prog 117 [(.int .i64 0), t0] h n fun t16_2 h n =>
     K t16_2 h n))
    (opW Tryz.prog (.bin .eql (.c t1) (.c (.int .i64 23))) h n fun t13 h n =>
    cndW t13
     (callW Tryz.prog 117 [(.int .i64 3), t0] h n fun t16_3 h n =>
     K t16_3 h n)
     (callW Tryz.prog 117 [(.int .i64 0), t0] h n fun t16_4 h n =>
     K t16_4 h n))))
theorem W158_eq (t0 t1 : AV) (h : Heap) (n : Nat) (K : KT) : wpF Tryz.prog 158 [t0, t1] h n K = W158 t0 t1 h n K := by kernel_rfl
theorem W158_ok {t0 t1 : AV} {h : Heap} {n : Nat} {K : KT} (hk : W158 t0 t1 h n K) : callW Tryz.prog 158 [t0, t1] h n K := callW_of_wpF mixed (by rw [W158_eq]; exact hk)
/-! ### 105: messuage/pte.Put -/
noncomputable def W105 (t0 : AV) (h : Heap) (n : Nat) (K : KT) : Prop :=
 opW Tryz.prog (.box (.c t0)) h n fun t1 h n =>
 opW Tryz.prog (.ld true 3 (.c t1)) h n fun t4 h n =>
 opW Tryz.prog (.build [(.int .i64 0), (.int .i64 0), (.int .i64 0)] []) h n fun t5 h n =>
 opW Tryz.prog (.aeq false 3 (.c t4) (.c t5)) h n fun t6 h n =>
 cndW t6
  (K (.tup [(.int .u64 0), (.bool true)]) h n)
  (opW Tryz.prog (.fa 0 (.c t1)) h n fun t7 h n =>
  opW Tryz.prog (.ld false 1 (.c t7)) h n fun t8 h n =>
  opW Tryz.prog (.bin .lss (.c t8) (.c (.int .i64 0))) h n fun t9 h n =>
  grdW t9 false (opW Tryz.prog (.fa 0 (.c t1)) h n) h n fun t11 h n =>
  grdW t9 false (opW Tryz.prog (.ld false 1 (.c t11)) h n) h n fun t12 h n =>
  grdW t9 false (opW Tryz.prog (.bin .geq (.c t12) (.c (.int .i64 16))) h n) h n fun t13 h n =>
  opW Tryz.prog (.pick (.c t9) (.c (.bool true)) (.c t13)) h n fun t14 h n =>
  grdW t14 false (opW Tryz.prog (.fa 1 (.c t1)) h n) h n fun t16 h n =>
  grdW t14 false (opW Tryz.prog (.ld false 1 (.c t16)) h n) h n fun t17 h n =>
  grdW t14 false (opW Tryz.prog (.bin .lss (.c t17) (.c (.int .i64 0))) h n) h n fun t18 h n =>
  opW Tryz.prog (.pick (.c t14) (.c (.bool true)) (.c t18)) h n fun t19 h n =>
  grdW t19 false (opW Tryz.prog (.fa 1 (.c t1)) h n) h n fun t21 h n =>
  grdW t19 false (opW Tryz.prog (.ld false 1 (.c t21)) h n) h n fun t22 h n =>
  grdW t19 false (opW Tryz.prog (.bin .geq (.c t22) (.c (.int .i64 8))) h n) h n fun t23 h n =>
  opW Tryz.prog (.pick (.c t19) (.c (.bool true)) (.c t23)) h n fun t24 h n =>
  grdW t24 false (opW Tryz.prog (.fa 2 (.c t1)) h n) h n fun t26 h n =>
  grdW t24 false (opW Tryz.prog (.ld false 1 (.c t26)) h n) h n fun t27 h n =>
  grdW t24 false (callW Tryz.prog 113 [t27] h n) h n fun t28 h n =>
  grdW t24 false (opW Tryz.prog (.un .not (.c t28)) h n) h n fun t29 h n =>
  opW Tryz.prog (.pick (.c t24) (.c (.bool true)) (.c t29)) h n fun t30 h n =>
  cndW t30
   (K (.tup [(.int .u64 0), (.bool false)]) h n)
   (opW Tryz.prog (.fa 0 (.c t1)) h n fun t31 h n =>
   opW Tryz.prog (.ld false 1 (.c t31)) h n fun t32 h n =>
   opW Tryz.prog (.bin .mul (.c (.int .i64 256)) (.c t32)) h n fun t33 h n =>
   opW Tryz.prog (.bin .add (.c (.int .i64 32768)) (.c t33)) h n fun t34 h n =>
   opW Tryz.prog (.fa 1 (.c t1)) h n fun t35 h n =>
   opW Tryz.prog (.ld false 1 (.c t35)) h n fun t36 h n =>
   opW Tryz.prog (.bin .mul (.c (.int .i64 16)) (.c t36)) h n fun t37 h n =>
   opW Tryz.prog (.bin .add (.c t34) (.c t37)) h n fun t38 h n =>
   opW Tryz.prog (.fa 2 (.c t1)) h n fun t39 h n =>
   opW Tryz.prog (.ld false 1 (.c t39)) h n fun t40 h n =>
   opW Tryz.prog (.bin .add (.c t38) (.c t40)) h n fun t41 h n =>
   opW Tryz.prog (.conv .u64 (.c t41)) h n fun t42 h n =>
   K (.tup [t42, (.bool true)]) h n))
theorem W105_eq (t0 : AV) (h : Heap) (n : Nat) (K : KT) : wpF Tryz.prog 105 [t0] h n K = W105 t0 h n K := by kernel_rfl
theorem W105_ok {t0 : AV} {h : Heap} {n : Nat} {K : KT} (hk : W105 t0 h n K) : callW Tryz.prog 105 [t0] h n K := callW_of_wpF mixed (by rw [W105_eq]; exact hk)
end Go.Proofs.As0
/- Functions of the program, as they are to be shown: printed by Gen.lean. -/
namespace Go.Proofs.As0
open Go Go.Eng
/-! ### 47: messuage/caps.New -/
noncomputable def W47 (t0 : AV) (h : Heap) (n : Nat) (K : KT) : Prop :=
 opW Tryz.prog (.bin .lss (.c t0) (.c (.int .i64 1))) h n fun t4 h n =>
 grdW t4 false (fun k => k t0 h n) h n fun t6 h n =>
 grdW t4 false (opW Tryz.prog (.bin .gtr (.c t6) (.c (.int .i64 4))) h n) h n fun t7 h n =>
 opW Tryz.prog (.pick (.c t4) (.c (.bool true)) (.c t7)) h n fun t8 h n =>
 cndW t8
  (K .nilp h n)
  (opW Tryz.prog (.mks 32 256 [(.int .i64 0), (.int .i64 0), (.int .i64 0), (.int .i64 0), (.int .i64 0), (.int .i64 0), (.int .i64 0), (.int .i64 0), (.int .i64 0), (.int .i64 0), (.int .i64 0), (.int .i64 0), (.int .i64 0), (.int .i64 0), (.int .i64 0), (.int .i64 0), (.int .i64 0), (.int .i64 0), (.int .i64 0), (.int .i64 0), (.int .i64 0), (.int .i64 0), (.int .i64 0), (.int .i64 0), (.int .i64 0), (.int .i64 0), (.int .i64 0), (.int .i64 0), (.int .i64 0), (.int .i64 0), (.int .i64 0), (.int .i64 0)] (.c t0) (.c t0)) h n fun t10 h n =>
  opW Tryz.prog (.build [.nilsl] [(0, 1, (.c t10))]) h n fun t11 h n =>
  opW Tryz.prog (.box (.c t11)) h n fun t12 h n =>
  K t12 h n)
theorem W47_eq (t0 : AV) (h : Heap) (n : Nat) (K : KT) : wpF Tryz.prog 47 [t0] h n K = W47 t0 h n K := by kernel_rfl
theorem W47_ok {t0 : AV} {h : Heap} {n : Nat} {K : KT} (hk : W47 t0 h n K) : callW Tryz.prog 47 [t0] h n K := callW_of_wpF mixed (by rw [W47_eq]; exact hk)
/-! ### 116: (*messuage/caps.Tree).is -/
noncomputable def W116 (t0 t1 t2 : AV) (h : Heap) (n : Nat) (K : KT) : Prop :=
 opW Tryz.prog (.bin .geq (.c t1) (.c (.int .i64 0))) h n fun t8 h n =>
 grdW t8 true (fun k => k t1 h n) h n fun t10 h n =>
 grdW t8 true (fun k => k t0 h n) h n fun t11 h n =>
 grdW t8 true (opW Tryz.prog (.nck (.c t11)) h n) h n fun t12 h n =>
 grdW t8 true (opW Tryz.prog (.fa 0 (.c t12)) h n) h n fun t13 h n =>
 grdW t8 true (opW Tryz.prog (.ld false 1 (.c t13)) h n) h n fun t14 h n =>
 grdW t8 true (opW Tryz.prog (.len (.c t14)) h n) h n fun t15 h n =>
 grdW t8 true (opW Tryz.prog (.bin .lss (.c t10) (.c t15)) h n) h n fun t16 h n =>
 opW Tryz.prog (.pick (.c t8) (.c t16) (.c (.bool false))) h n fun t17 h n =>
 grdW t17 true (fun k => k t2 h n) h n fun t19 h n =>
 grdW t17 true (opW Tryz.prog (.bin .geq (.c t19) (.c (.int .i64 0))) h n) h n fun t20 h n =>
 opW Tryz.prog (.pick (.c t17) (.c t20) (.c (.bool false))) h n fun t21 h n =>
 grdW t21 true (fun k => k t2 h n) h n fun t23 h n =>
 grdW t21 true (opW Tryz.prog (.bin .lss (.c t23) (.c (.int .i64 8))) h n) h n fun t24 h n =>
 opW Tryz.prog (.pick (.c t21) (.c t24) (.c (.bool false))) h n fun t25 h n =>
 K t25 h n
theorem W116_eq (t0 t1 t2 : AV) (h : Heap) (n : Nat) (K : KT) : wpF Tryz.prog 116 [t0, t1, t2] h n K = W116 t0 t1 t2 h n K := by kernel_rfl
theorem W116_ok {t0 t1 t2 : AV} {h : Heap} {n : Nat} {K : KT} (hk : W116 t0 t1 t2 h n K) : callW Tryz.prog 116 [t0, t1, t2] h n K := callW_of_wpF mixed (by rw [W116_eq]; exact hk)
/-! ### 59: (*messuage/caps.Tree).At -/
noncomputable def W59 (t0 t1 t2 : AV) (h : Heap) (n : Nat) (K : KT) : Prop :=
 opW Tryz.prog (.new 0 [(.int .i64 0), (.int .i64 0), (.int .i64 0), (.int .i64 0)]) h n fun t6 h n =>
 opW Tryz.prog (.peq false (.c t0) (.c .nilp)) h n fun t9 h n =>
 grdW t9 false (fun k => k t0 h n) h n fun t11 h n =>
 grdW t9 false (fun k => k t1 h n) h n fun t12 h n =>
 grdW t9 false (fun k => k t2 h n) h n fun t13 h n =>
 grdW t9 false (callW Tryz.prog 116 [t11, t12, t13] h n) h n fun t14 h n =>
 grdW t9 false (opW Tryz.prog (.un .not (.c t14)) h n) h n fun t15 h n =>
 opW Tryz.prog (.pick (.c t9) (.c (.bool true)) (.c t15)) h n fun t16 h n =>
 grdW t16 false (fun k => k t0 h n) h n fun t18 h n =>
 grdW t16 false (opW Tryz.prog (.nck (.c t18)) h n) h n fun t19 h n =>
 grdW t16 false (opW Tryz.prog (.fa 0 (.c t19)) h n) h n fun t20 h n =>
 grdW t16 false (opW Tryz.prog (.ld false 1 (.c t20)) h n) h n fun t21 h n =>
 grdW t16 false (fun k => k t1 h n) h n fun t22 h n =>
 grdW t16 false (fun k => k t2 h n) h n fun t23 h n =>
 grdW t16 false (opW Tryz.prog (.iaS 32 (.c t21) (.c t22)) h n) h n fun t24 h n =>
 grdW t16 false (opW Tryz.prog (.iaA 8 4 (.c t24) (.c t23)) h n) h n fun t25 h n =>
 grdW t16 false (opW Tryz.prog (.fa 1 (.c t25)) h n) h n fun t26 h n =>
 grdW t16 false (opW Tryz.prog (.ld false 1 (.c t26)) h n) h n fun t27 h n =>
 grdW t16 false (opW Tryz.prog (.bin .eql (.c t27) (.c (.int .i64 0))) h n) h n fun t28 h n =>
 opW Tryz.prog (.pick (.c t16) (.c (.bool true)) (.c t28)) h n fun t29 h n =>
 cndW t29
  (opW Tryz.prog (.build [(.int .i64 0), (.int .i64 0), (.int .i64 0), (.int .i64 0)] []) h n fun t30 h n =>
  opW Tryz.prog (.st 4 (.c t6) (.c t30)) h n fun _ h n =>
  ldR true 4 t6 h fun r => K (.tup [r, (.bool false)]) h n)
  (opW Tryz.prog (.nck (.c t0)) h n fun t32 h n =>
  opW Tryz.prog (.fa 0 (.c t32)) h n fun t33 h n =>
  opW Tryz.prog (.ld false 1 (.c t33)) h n fun t34 h n =>
  opW Tryz.prog (.iaS 32 (.c t34) (.c t1)) h n fun t37 h n =>
  opW Tryz.prog (.iaA 8 4 (.c t37) (.c t2)) h n fun t38 h n =>
  opW Tryz.prog (.ld true 4 (.c t38)) h n fun t39 h n =>
  opW Tryz.prog (.st 4 (.c t6) (.c t39)) h n fun _ h n =>
  ldR true 4 t6 h fun r_0 => K (.tup [r_0, (.bool true)]) h n)
theorem W59_eq (t0 t1 t2 : AV) (h : Heap) (n : Nat) (K : KT) : wpF Tryz.prog 59 [t0, t1, t2] h n K = W59 t0 t1 t2 h n K := by kernel_rfl
theorem W59_ok {t0 t1 t2 : AV} {h : Heap} {n : Nat} {K : KT} (hk : W59 t0 t1 t2 h n K) : callW Tryz.prog 59 [t0, t1, t2] h n K := callW_of_wpF mixed (by rw [W59_eq]; exact hk)
/-! ### 48: (*messuage/caps.Tree).Root -/
noncomputable def W48 (t0 t1 t2 t3 : AV) (h : Heap) (n : Nat) (K : KT) : Prop :=
 opW Tryz.prog (.peq false (.c t0) (.c .nilp)) h n fun t11 h n =>
 cndW t11
  (K (.int .i64 10) h n)
  (callW Tryz.prog 116 [t0, t1, t2] h n fun t16 h n =>
  opW Tryz.prog (.un .not (.c t16)) h n fun t17 h n =>
  grdW t17 false (fun k => k t3 h n) h n fun t19 h n =>
  grdW t17 false (opW Tryz.prog (.bin .lss (.c t19) (.c (.int .i64 0))) h n) h n fun t20 h n =>
  opW Tryz.prog (.pick (.c t17) (.c (.bool true)) (.c t20)) h n fun t21 h n =>
  grdW t21 false (fun k => k t3 h n) h n fun t23 h n =>
  grdW t21 false (opW Tryz.prog (.bin .geq (.c t23) (.c (.int .i64 16))) h n) h n fun t24 h n =>
  opW Tryz.prog (.pick (.c t21) (.c (.bool true)) (.c t24)) h n fun t25 h n =>
  cndW t25
   (K (.int .i64 2) h n)
   (opW Tryz.prog (.nck (.c t0)) h n fun t28 h n =>
   opW Tryz.prog (.fa 0 (.c t28)) h n fun t29 h n =>
   opW Tryz.prog (.ld false 1 (.c t29)) h n fun t30 h n =>
   opW Tryz.prog (.iaS 32 (.c t30) (.c t1)) h n fun t33 h n =>
   opW Tryz.prog (.iaA 8 4 (.c t33) (.c t2)) h n fun t34 h n =>
   opW Tryz.prog (.fa 1 (.c t34)) h n fun t35 h n =>
   opW Tryz.prog (.ld false 1 (.c t35)) h n fun t36 h n =>
   opW Tryz.prog (.bin .neq (.c t36) (.c (.int .i64 0))) h n fun t37 h n =>
   cndW t37
    (K (.int .i64 4) h n)
    (opW Tryz.prog (.nck (.c t0)) h n fun t39 h n =>
    opW Tryz.prog (.fa 0 (.c t39)) h n fun t40 h n =>
    opW Tryz.prog (.ld false 1 (.c t40)) h n fun t41 h n =>
    opW Tryz.prog (.build [(.int .i64 0), (.int .i64 0), (.int .i64 0), (.int .i64 0)] [(0, 1, (.c t3)), (1, 1, (.c (.int .i64 3))), (2, 1, (.c (.int .i64 (-1))))]) h n fun t45 h n =>
    opW Tryz.prog (.iaS 32 (.c t41) (.c t1)) h n fun t46 h n =>
    opW Tryz.prog (.iaA 8 4 (.c t46) (.c t2)) h n fun t47 h n =>
    opW Tryz.prog (.st 4 (.c t47) (.c t45)) h n fun _ h n =>
    K (.int .i64 0) h n)))
theorem W48_eq (t0 t1 t2 t3 : AV) (h : Heap) (n : Nat) (K : KT) : wpF Tryz.prog 48 [t0, t1, t2, t3] h n K = W48 t0 t1 t2 t3 h n K := by kernel_rfl
theorem W48_ok {t0 t1 t2 t3 : AV} {h : Heap} {n : Nat} {K : KT} (hk : W48 t0 t1 t2 t3 h n K) : callW Tryz.prog 48 [t0, t1, t2, t3] h n K := callW_of_wpF mixed (by rw [W48_eq]; exact hk)
/-! ### 50: (*messuage/caps.Tree).Derive -/
noncomputable def W50 (t0 t1 t2 t3 t4 t5 : AV) (h : Heap) (n : Nat) (K : KT) : Prop :=
 opW Tryz.prog (.peq false (.c t0) (.c .nilp)) h n fun t15 h n =>
 cndW t15
  (K (.int .i64 10) h n)
  (callW Tryz.prog 116 [t0, t1, t2] h n fun t19 h n =>
  opW Tryz.prog (.un .not (.c t19)) h n fun t20 h n =>
  grdW t20 false (fun k => k t0 h n) h n fun t22 h n =>
  grdW t20 false (fun k => k t3 h n) h n fun t23 h n =>
  grdW t20 false (fun k => k t4 h n) h n fun t24 h n =>
  grdW t20 false (callW Tryz.prog 116 [t22, t23, t24] h n) h n fun t25 h n =>
  grdW t20 false (opW Tryz.prog (.un .not (.c t25)) h n) h n fun t26 h n =>
  opW Tryz.prog (.pick (.c t20) (.c (.bool true)) (.c t26)) h n fun t27 h n =>
  grdW t27 false (fun k => k t5 h n) h n fun t29 h n =>
  grdW t27 false (callW Tryz.prog 113 [t29] h n) h n fun t30 h n =>
  grdW t27 false (opW Tryz.prog (.un .not (.c t30)) h n) h n fun t31 h n =>
  opW Tryz.prog (.pick (.c t27) (.c (.bool true)) (.c t31)) h n fun t32 h n =>
  cndW t32
   (K (.int .i64 2) h n)
   (opW Tryz.prog (.nck (.c t0)) h n fun t34 h n =>
   opW Tryz.prog (.fa 0 (.c t34)) h n fun t35 h n =>
   opW Tryz.prog (.ld false 1 (.c t35)) h n fun t36 h n =>
   opW Tryz.prog (.iaS 32 (.c t36) (.c t1)) h n fun t39 h n =>
   opW Tryz.prog (.iaA 8 4 (.c t39) (.c t2)) h n fun t40 h n =>
   opW Tryz.prog (.ld true 4 (.c t40)) h n fun t41 h n =>
   opW Tryz.prog (.new 0 [(.int .i64 0), (.int .i64 0), (.int .i64 0), (.int .i64 0)]) h n fun t13 h n =>
   opW Tryz.prog (.st 4 (.c t13) (.c t41)) h n fun _ h n =>
   opW Tryz.prog (.fa 1 (.c t13)) h n fun t43 h n =>
   opW Tryz.prog (.ld false 1 (.c t43)) h n fun t44 h n =>
   opW Tryz.prog (.bin .eql (.c t44) (.c (.int .i64 0))) h n fun t45 h n =>
   cndW t45
    (K (.int .i64 3) h n)
    (opW Tryz.prog (.nck (.c t0)) h n fun t48 h n =>
    opW Tryz.prog (.fa 0 (.c t48)) h n fun t49 h n =>
    opW Tryz.prog (.ld false 1 (.c t49)) h n fun t50 h n =>
    opW Tryz.prog (.iaS 32 (.c t50) (.c t3)) h n fun t53 h n =>
    opW Tryz.prog (.iaA 8 4 (.c t53) (.c t4)) h n fun t54 h n =>
    opW Tryz.prog (.fa 1 (.c t54)) h n fun t55 h n =>
    opW Tryz.prog (.ld false 1 (.c t55)) h n fun t56 h n =>
    opW Tryz.prog (.bin .neq (.c t56) (.c (.int .i64 0))) h n fun t57 h n =>
    cndW t57
     (K (.int .i64 4) h n)
     (opW Tryz.prog (.fa 1 (.c t13)) h n fun t60 h n =>
     opW Tryz.prog (.ld false 1 (.c t60)) h n fun t61 h n =>
     callW Tryz.prog 117 [t5, t61] h n fun t62 h n =>
     opW Tryz.prog (.un .not (.c t62)) h n fun t63 h n =>
     cndW t63
      (K (.int .i64 5) h n)
      (opW Tryz.prog (.nck (.c t0)) h n fun t65 h n =>
      opW Tryz.prog (.fa 0 (.c t65)) h n fun t66 h n =>
      dopW Tryz.prog 3 (.ld false 1 (.c t66)) h n [] fun t67 h n p3 =>
      opW Tryz.prog (.fa 0 (.c t13)) h n fun t70 h n =>
      dopW Tryz.prog 7 (.ld false 1 (.c t70)) h n [p3] fun t71 h n p7 =>
      opW Tryz.prog (.build [(.int .i64 0), (.int .i64 0), (.int .i64 0), (.int .i64 0)] [(0, 1, (.c t71)), (1, 1, (.c t5)), (2, 1, (.c t1)), (3, 1, (.c t2))]) h n fun t75 h n =>
      opW Tryz.prog (.iaS 32 (.c t67) (.c t3)) h n fun t76 h n =>
      opW Tryz.prog (.iaA 8 4 (.c t76) (.c t4)) h n fun t77 h n =>
      dopW Tryz.prog 14 (.st 4 (.c t77) (.c t75)) h n [] fun _ h n p14 =>
      K (.int .i64 0) h n)))))
theorem W50_eq (t0 t1 t2 t3 t4 t5 : AV) (h : Heap) (n : Nat) (K : KT) : wpF Tryz.prog 50 [t0, t1, t2, t3, t4, t5] h n K = W50 t0 t1 t2 t3 t4 t5 h n K := by kernel_rfl
theorem W50_ok {t0 t1 t2 t3 t4 t5 : AV} {h : Heap} {n : Nat} {K : KT} (hk : W50 t0 t1 t2 t3 t4 t5 h n K) : callW Tryz.prog 50 [t0, t1, t2, t3, t4, t5] h n K := callW_of_wpF mixed (by rw [W50_eq]; exact hk)
/-! ### 118: (*messuage/caps.Tree).look -/
noncomputable def W118 (t0 t1 t2 : AV) (h : Heap) (n : Nat) (K : KT) : Prop :=
 opW Tryz.prog (.peq false (.c t0) (.c .nilp)) h n fun t9 h n =>
 cndW t9
  (K (.int .i64 10) h n)
  (callW Tryz.prog 116 [t0, t1, t2] h n fun t14 h n =>
  opW Tryz.prog (.un .not (.c t14)) h n fun t15 h n =>
  cndW t15
   (K (.int .i64 2) h n)
   (opW Tryz.prog (.nck (.c t0)) h n fun t18 h n =>
   opW Tryz.prog (.fa 0 (.c t18)) h n fun t19 h n =>
   opW Tryz.prog (.ld false 1 (.c t19)) h n fun t20 h n =>
   opW Tryz.prog (.iaS 32 (.c t20) (.c t1)) h n fun t23 h n =>
   opW Tryz.prog (.iaA 8 4 (.c t23) (.c t2)) h n fun t24 h n =>
   opW Tryz.prog (.fa 1 (.c t24)) h n fun t25 h n =>
   opW Tryz.prog (.ld false 1 (.c t25)) h n fun t26 h n =>
   opW Tryz.prog (.bin .eql (.c t26) (.c (.int .i64 0))) h n fun t27 h n =>
   cndW t27
    (K (.int .i64 3) h n)
    (K (.int .i64 0) h n)))
theorem W118_eq (t0 t1 t2 : AV) (h : Heap) (n : Nat) (K : KT) : wpF Tryz.prog 118 [t0, t1, t2] h n K = W118 t0 t1 t2 h n K := by kernel_rfl
theorem W118_ok {t0 t1 t2 : AV} {h : Heap} {n : Nat} {K : KT} (hk : W118 t0 t1 t2 h n K) : callW Tryz.prog 118 [t0, t1, t2] h n K := callW_of_wpF mixed (by rw [W118_eq]; exact hk)
/-! ### 119: (*messuage/caps.Tree).empties -/
/-- The loop 0's body. -/
noncomputable def B119_0 (κ : KC) (g : Nat → AV) (h : Heap) (n : Nat) : Prop :=
 opW Tryz.prog (.bin .lss (.c (g 9)) (.c (g 8))) h n fun t10 h n =>
 cndW t10
  (opW Tryz.prog (.iaS 2 (.c (g 7)) (.c (g 9))) h n fun t11 h n =>
  opW Tryz.prog (.ld true 2 (.c t11)) h n fun t12 h n =>
  opW Tryz.prog (.new 0 [(.int .i64 0), (.int .i64 0)]) h n fun t6 h n =>
  opW Tryz.prog (.st 2 (.c t6) (.c t12)) h n fun _ h n =>
  opW Tryz.prog (.nck (.c (g 0))) h n fun t14 h n =>
  opW Tryz.prog (.fa 0 (.c t14)) h n fun t15 h n =>
  dopW Tryz.prog 3 (.ld false 1 (.c t15)) h n [] fun t16 h n p3 =>
  opW Tryz.prog (.fa 0 (.c t6)) h n fun t17 h n =>
  dopW Tryz.prog 5 (.ld false 1 (.c t17)) h n [p3] fun t18 h n p5 =>
  opW Tryz.prog (.fa 1 (.c t6)) h n fun t19 h n =>
  dopW Tryz.prog 7 (.ld false 1 (.c t19)) h n [p5, p3] fun t20 h n p7 =>
  opW Tryz.prog (.build [(.int .i64 0), (.int .i64 0), (.int .i64 0), (.int .i64 0)] []) h n fun t21 h n =>
  opW Tryz.prog (.iaS 32 (.c t16) (.c t18)) h n fun t22 h n =>
  opW Tryz.prog (.iaA 8 4 (.c t22) (.c t20)) h n fun t23 h n =>
  dopW Tryz.prog 11 (.st 4 (.c t23) (.c t21)) h n [] fun _ h n p11 =>
  opW Tryz.prog (.bin .add (.c (g 9)) (.c (.int .i64 1))) h n fun t24 h n =>
  κ .normal (tl 26 (ug g [(9, t24), (24, t24), (23, t23), (22, t22), (21, t21), (20, t20), (19, t19), (18, t18), (17, t17), (16, t16), (15, t15), (14, t14), (13, (g 0)), (6, t6), (12, t12), (11, t11), (10, t10)])) h n)
  (κ (.exit 0) (tl 26 (ug g [(10, t10)])) h n)
theorem B119_0_eq (κ : KC) (g : Nat → AV) (h : Heap) (n : Nat) : wpC Tryz.prog (cAt [1, 0, 1, 0, 0] (bodyOf Tryz.prog 119)) κ (tl 26 g) h n = B119_0 κ g h n := by kernel_rfl
noncomputable def k119_0 (κ : KC) : KC := thenK (fun a h n => wpC Tryz.prog (cAt [1, 1] (bodyOf Tryz.prog 119)) κ a h n) κ
/-- Behind the loop 0, by its exit 0. -/
noncomputable def X119_0_0 (K : KT) (g : Nat → AV) (h : Heap) (n : Nat) : Prop :=
 K (g 1) h n
theorem X119_0_0_eq (K : KT) (g : Nat → AV) (h : Heap) (n : Nat) : (blockK 0 (k119_0 (retK Tryz.prog (resOf Tryz.prog 119) K))) (.exit 0) (tl 26 g) h n = X119_0_0 K g h n := by kernel_rfl
noncomputable def W119 (t0 t1 : AV) (h : Heap) (n : Nat) (K : KT) : Prop :=
 opW Tryz.prog (.len (.c t1)) h n fun t8 h n =>
 loopW Tryz.prog (cAt [1, 0, 1, 0, 0] (bodyOf Tryz.prog 119)) ((blockK 0 (k119_0 (retK Tryz.prog (resOf Tryz.prog 119) K)))) (tl 26 (gl [t0, t1, undefA, undefA, .nilsl, undefA, undefA, t1, t8, (.int .i64 0)])) h n
theorem W119_eq (t0 t1 : AV) (h : Heap) (n : Nat) (K : KT) : wpF Tryz.prog 119 [t0, t1] h n K = W119 t0 t1 h n K := by kernel_rfl
theorem W119_ok {t0 t1 : AV} {h : Heap} {n : Nat} {K : KT} (hk : W119 t0 t1 h n K) : callW Tryz.prog 119 [t0, t1] h n K := callW_of_wpF mixed (by rw [W119_eq]; exact hk)
/-! ### 120: (*messuage/caps.Tree).all -/
/-- The loop 1's body. -/
noncomputable def B120_1 (κ : KC) (g : Nat → AV) (h : Heap) (n : Nat) : Prop :=
 opW Tryz.prog (.bin .lss (.c (g 27)) (.c (.int .i64 8))) h n fun t28 h n =>
 cndW t28
  (opW Tryz.prog (.ixA 8 4 true (.c (g 26)) (.c (g 27))) h n fun t30 h n =>
  opW Tryz.prog (.new 0 [(.int .i64 0), (.int .i64 0), (.int .i64 0), (.int .i64 0)]) h n fun t8 h n =>
  opW Tryz.prog (.st 4 (.c t8) (.c t30)) h n fun _ h n =>
  opW Tryz.prog (.build [(.int .i64 0), (.int .i64 0)] [(0, 1, (.c (g 6))), (1, 1, (.c (g 27)))]) h n fun t33 h n =>
  opW Tryz.prog (.new 0 [(.int .i64 0), (.int .i64 0)]) h n fun t9 h n =>
  opW Tryz.prog (.st 2 (.c t9) (.c t33)) h n fun _ h n =>
  opW Tryz.prog (.fa 1 (.c t8)) h n fun t34 h n =>
  opW Tryz.prog (.ld false 1 (.c t34)) h n fun t35 h n =>
  opW Tryz.prog (.bin .neq (.c t35) (.c (.int .i64 0))) h n fun t36 h n =>
  grdW t36 true (fun k => k (g 1) h n) h n fun t38 h n =>
  grdW t36 true (opW Tryz.prog (.ld true 2 (.c t9)) h n) h n fun t39 h n =>
  grdW t36 true (opW Tryz.prog (.ld true 4 (.c t8)) h n) h n fun t40 h n =>
  grdW t36 true (cvW Tryz.prog t38 [t39, t40] h n) h n fun t41 h n =>
  opW Tryz.prog (.pick (.c t36) (.c t41) (.c (.bool false))) h n fun t42 h n =>
  cndW t42
   (opW Tryz.prog (.ld true 2 (.c t9)) h n fun t44 h n =>
   opW Tryz.prog (.bsl 2 [(.int .i64 0), (.int .i64 0)] 1 [(0, 2, (.c t44))]) h n fun t45 h n =>
   opW Tryz.prog (.app 2 16 (.c (g 5)) (.c t45)) h n fun t46 h n =>
   opW Tryz.prog (.bin .add (.c (g 27)) (.c (.int .i64 1))) h n fun t47 h n =>
   κ .normal (tl 50 (ug g [(27, t47), (47, t47), (5, t46), (46, t46), (45, t45), (44, t44), (43, (g 5)), (42, t42), (41, t41), (40, t40), (39, t39), (38, t38), (37, t36), (36, t36), (35, t35), (34, t34), (9, t9), (33, t33), (32, (g 27)), (31, (g 6)), (7, (g 27)), (8, t8), (30, t30), (29, (g 27)), (28, t28)])) h n)
   (opW Tryz.prog (.bin .add (.c (g 27)) (.c (.int .i64 1))) h n fun t47_0 h n =>
   κ .normal (tl 50 (ug g [(27, t47_0), (47, t47_0), (42, t42), (41, t41), (40, t40), (39, t39), (38, t38), (37, t36), (36, t36), (35, t35), (34, t34), (9, t9), (33, t33), (32, (g 27)), (31, (g 6)), (7, (g 27)), (8, t8), (30, t30), (29, (g 27)), (28, t28)])) h n))
  (κ (.exit 2) (tl 50 (ug g [(28, t28)])) h n)
theorem B120_1_eq (κ : KC) (g : Nat → AV) (h : Heap) (n : Nat) : wpC Tryz.prog (cAt [1, 1, 1, 0, 1, 0, 0, 1, 1, 0, 0, 1, 1, 0, 0] (bodyOf Tryz.prog 120)) κ (tl 50 g) h n = B120_1 κ g h n := by kernel_rfl
noncomputable def k120_0 (κ : KC) : KC := thenK (fun a h n => wpC Tryz.prog (cAt [1, 1, 1, 0, 1, 0, 0, 1, 1, 1] (bodyOf Tryz.prog 120)) κ a h n) κ
/-- Behind the loop 1, by its exit 2. -/
noncomputable def X120_1_2 (κ : KC) (g : Nat → AV) (h : Heap) (n : Nat) : Prop :=
 opW Tryz.prog (.bin .add (.c (g 17)) (.c (.int .i64 1))) h n fun t48 h n =>
 κ .normal (tl 50 (ug g [(17, t48), (48, t48)])) h n
theorem X120_1_2_eq (κ : KC) (g : Nat → AV) (h : Heap) (n : Nat) : (blockK 2 (blockK 1 (k120_0 κ))) (.exit 2) (tl 50 g) h n = X120_1_2 κ g h n := by kernel_rfl
/-- The loop 0's body. -/
noncomputable def B120_0 (κ : KC) (g : Nat → AV) (h : Heap) (n : Nat) : Prop :=
 opW Tryz.prog (.bin .lss (.c (g 17)) (.c (g 16))) h n fun t18 h n =>
 cndW t18
  (opW Tryz.prog (.nck (.c (g 0))) h n fun t21 h n =>
  opW Tryz.prog (.fa 0 (.c t21)) h n fun t22 h n =>
  opW Tryz.prog (.ld false 1 (.c t22)) h n fun t23 h n =>
  opW Tryz.prog (.iaS 32 (.c t23) (.c (g 17))) h n fun t25 h n =>
  opW Tryz.prog (.ld true 32 (.c t25)) h n fun t26 h n =>
  loopW Tryz.prog (cAt [1, 1, 1, 0, 1, 0, 0, 1, 1, 0, 0, 1, 1, 0, 0] (bodyOf Tryz.prog 120)) (blockK 2 (blockK 1 (k120_0 κ))) (tl 50 (ug g [(27, (.int .i64 0)), (26, t26), (25, t25), (24, (g 17)), (23, t23), (22, t22), (21, t21), (20, (g 0)), (6, (g 17)), (19, (g 17)), (18, t18)])) h n)
  (κ (.exit 0) (tl 50 (ug g [(18, t18)])) h n)
theorem B120_0_eq (κ : KC) (g : Nat → AV) (h : Heap) (n : Nat) : wpC Tryz.prog (cAt [1, 1, 1, 0, 1, 0, 0] (bodyOf Tryz.prog 120)) κ (tl 50 g) h n = B120_0 κ g h n := by kernel_rfl
noncomputable def k120_1 (κ : KC) : KC := thenK (fun a h n => wpC Tryz.prog (cAt [1, 1, 1, 1] (bodyOf Tryz.prog 120)) κ a h n) κ
/-- Behind the loop 0, by its exit 0. -/
noncomputable def X120_0_0 (K : KT) (g : Nat → AV) (h : Heap) (n : Nat) : Prop :=
 K (g 5) h n
theorem X120_0_0_eq (K : KT) (g : Nat → AV) (h : Heap) (n : Nat) : (blockK 0 (k120_1 (retK Tryz.prog (resOf Tryz.prog 120) K))) (.exit 0) (tl 50 g) h n = X120_0_0 K g h n := by kernel_rfl
noncomputable def W120 (t0 t1 : AV) (h : Heap) (n : Nat) (K : KT) : Prop :=
 opW Tryz.prog (.peq false (.c t0) (.c .nilp)) h n fun t11 h n =>
 cndW t11
  (K .nilsl h n)
  (opW Tryz.prog (.nck (.c t0)) h n fun t13 h n =>
  opW Tryz.prog (.fa 0 (.c t13)) h n fun t14 h n =>
  opW Tryz.prog (.ld false 1 (.c t14)) h n fun t15 h n =>
  opW Tryz.prog (.len (.c t15)) h n fun t16 h n =>
  loopW Tryz.prog (cAt [1, 1, 1, 0, 1, 0, 0] (bodyOf Tryz.prog 120)) ((blockK 0 (k120_1 (retK Tryz.prog (resOf Tryz.prog 120) K)))) (tl 50 (gl [t0, t1, undefA, undefA, .nilsl, .nilsl, undefA, undefA, undefA, undefA, t0, t11, t0, t13, t14, t15, t16, (.int .i64 0)])) h n)
theorem W120_eq (t0 t1 : AV) (h : Heap) (n : Nat) (K : KT) : wpF Tryz.prog 120 [t0, t1] h n K = W120 t0 t1 h n K := by kernel_rfl
theorem W120_ok {t0 t1 : AV} {h : Heap} {n : Nat} {K : KT} (hk : W120 t0 t1 h n K) : callW Tryz.prog 120 [t0, t1] h n K := callW_of_wpF mixed (by rw [W120_eq]; exact hk)
/-! ### 121: (*messuage/caps.Tree).Drop$1 -/
noncomputable def W121 (t0 t1 t2 t3 : AV) (h : Heap) (n : Nat) (K : KT) : Prop :=
 opW Tryz.prog (.box (.c t0)) h n fun t4 h n =>
 opW Tryz.prog (.box (.c t1)) h n fun t5 h n =>
 opW Tryz.prog (.ld true 2 (.c t4)) h n fun t7 h n =>
 opW Tryz.prog (.ld true 2 (.c t2)) h n fun t8 h n =>
 opW Tryz.prog (.aeq false 2 (.c t7) (.c t8)) h n fun t9 h n =>
 grdW t9 false (opW Tryz.prog (.ld false 1 (.c t3)) h n) h n fun t11 h n =>
 grdW t9 false (opW Tryz.prog (.ld true 4 (.c t5)) h n) h n fun t12 h n =>
 grdW t9 false (opW Tryz.prog (.ld true 2 (.c t2)) h n) h n fun t13 h n =>
 grdW t9 false (callW Tryz.prog 122 [t11, t12, t13] h n) h n fun t14 h n =>
 opW Tryz.prog (.pick (.c t9) (.c (.bool true)) (.c t14)) h n fun t15 h n =>
 K t15 h n
theorem W121_eq (t0 t1 t2 t3 : AV) (h : Heap) (n : Nat) (K : KT) : wpF Tryz.prog 121 [t0, t1, t2, t3] h n K = W121 t0 t1 t2 t3 h n K := by kernel_rfl
theorem W121_ok {t0 t1 t2 t3 : AV} {h : Heap} {n : Nat} {K : KT} (hk : W121 t0 t1 t2 t3 h n K) : callW Tryz.prog 121 [t0, t1, t2, t3] h n K := callW_of_wpF mixed (by rw [W121_eq]; exact hk)
/-! ### 122: (*messuage/caps.Tree).under -/
/-- The loop 0's body. -/
noncomputable def B122_0 (κ : KC) (g : Nat → AV) (h : Heap) (n : Nat) : Prop :=
 opW Tryz.prog (.fa 1 (.c (g 4))) h n fun t7 h n =>
 opW Tryz.prog (.ld false 1 (.c t7)) h n fun t8 h n =>
 opW Tryz.prog (.bin .neq (.c t8) (.c (.int .i64 0))) h n fun t9 h n =>
 grdW t9 true (opW Tryz.prog (.fa 2 (.c (g 4))) h n) h n fun t11 h n =>
 grdW t9 true (opW Tryz.prog (.ld false 1 (.c t11)) h n) h n fun t12 h n =>
 grdW t9 true (opW Tryz.prog (.bin .geq (.c t12) (.c (.int .i64 0))) h n) h n fun t13 h n =>
 opW Tryz.prog (.pick (.c t9) (.c t13) (.c (.bool false))) h n fun t14 h n =>
 cndW t14
  (opW Tryz.prog (.fa 2 (.c (g 4))) h n fun t15 h n =>
  opW Tryz.prog (.ld false 1 (.c t15)) h n fun t16 h n =>
  opW Tryz.prog (.fa 0 (.c (g 5))) h n fun t17 h n =>
  opW Tryz.prog (.ld false 1 (.c t17)) h n fun t18 h n =>
  opW Tryz.prog (.bin .eql (.c t16) (.c t18)) h n fun t19 h n =>
  grdW t19 true (opW Tryz.prog (.fa 3 (.c (g 4))) h n) h n fun t21 h n =>
  grdW t19 true (opW Tryz.prog (.ld false 1 (.c t21)) h n) h n fun t22 h n =>
  grdW t19 true (opW Tryz.prog (.fa 1 (.c (g 5))) h n) h n fun t23 h n =>
  grdW t19 true (opW Tryz.prog (.ld false 1 (.c t23)) h n) h n fun t24 h n =>
  grdW t19 true (opW Tryz.prog (.bin .eql (.c t22) (.c t24)) h n) h n fun t25 h n =>
  opW Tryz.prog (.pick (.c t19) (.c t25) (.c (.bool false))) h n fun t26 h n =>
  cndW t26
   (κ .ret (tl 38 (ug g [(6, (.bool true)), (26, t26), (25, t25), (24, t24), (23, t23), (22, t22), (21, t21), (20, t19), (19, t19), (18, t18), (17, t17), (16, t16), (15, t15), (14, t14), (13, t13), (12, t12), (11, t11), (10, t9), (9, t9), (8, t8), (7, t7)])) h n)
   (opW Tryz.prog (.nck (.c (g 0))) h n fun t28 h n =>
   opW Tryz.prog (.fa 0 (.c t28)) h n fun t29 h n =>
   dopW Tryz.prog 3 (.ld false 1 (.c t29)) h n [] fun t30 h n p3 =>
   opW Tryz.prog (.fa 2 (.c (g 4))) h n fun t31 h n =>
   dopW Tryz.prog 5 (.ld false 1 (.c t31)) h n [p3] fun t32 h n p5 =>
   opW Tryz.prog (.fa 3 (.c (g 4))) h n fun t33 h n =>
   dopW Tryz.prog 7 (.ld false 1 (.c t33)) h n [p5, p3] fun t34 h n p7 =>
   opW Tryz.prog (.iaS 32 (.c t30) (.c t32)) h n fun t35 h n =>
   opW Tryz.prog (.iaA 8 4 (.c t35) (.c t34)) h n fun t36 h n =>
   dopW Tryz.prog 10 (.ld true 4 (.c t36)) h n [] fun t37 h n p10 =>
   dopW Tryz.prog 11 (.st 4 (.c (g 4)) (.c t37)) h n [] fun _ h n p11 =>
   κ .normal (tl 38 (ug g [(37, t37), (36, t36), (35, t35), (34, t34), (33, t33), (32, t32), (31, t31), (30, t30), (29, t29), (28, t28), (27, (g 0)), (26, t26), (25, t25), (24, t24), (23, t23), (22, t22), (21, t21), (20, t19), (19, t19), (18, t18), (17, t17), (16, t16), (15, t15), (14, t14), (13, t13), (12, t12), (11, t11), (10, t9), (9, t9), (8, t8), (7, t7)])) h n))
  (κ (.exit 0) (tl 38 (ug g [(14, t14), (13, t13), (12, t12), (11, t11), (10, t9), (9, t9), (8, t8), (7, t7)])) h n)
theorem B122_0_eq (κ : KC) (g : Nat → AV) (h : Heap) (n : Nat) : wpC Tryz.prog (cAt [1, 0, 0, 0] (bodyOf Tryz.prog 122)) κ (tl 38 g) h n = B122_0 κ g h n := by kernel_rfl
noncomputable def k122_0 (κ : KC) : KC := thenK (fun a h n => wpC Tryz.prog (cAt [1, 1] (bodyOf Tryz.prog 122)) κ a h n) κ
/-- Behind the loop 0, by its exit 0. -/
noncomputable def X122_0_0 (K : KT) (g : Nat → AV) (h : Heap) (n : Nat) : Prop :=
 K (.bool false) h n
theorem X122_0_0_eq (K : KT) (g : Nat → AV) (h : Heap) (n : Nat) : (blockK 0 (k122_0 (retK Tryz.prog (resOf Tryz.prog 122) K))) (.exit 0) (tl 38 g) h n = X122_0_0 K g h n := by kernel_rfl
theorem X122_0_ret_eq (K : KT) (g : Nat → AV) (h : Heap) (n : Nat) : (blockK 0 (k122_0 (retK Tryz.prog (resOf Tryz.prog 122) K))) .ret (tl 38 g) h n = (K (g 6) h n) := by kernel_rfl
noncomputable def W122 (t0 t1 t2 : AV) (h : Heap) (n : Nat) (K : KT) : Prop :=
 opW Tryz.prog (.box (.c t1)) h n fun t4 h n =>
 opW Tryz.prog (.box (.c t2)) h n fun t5 h n =>
 loopW Tryz.prog (cAt [1, 0, 0, 0] (bodyOf Tryz.prog 122)) ((blockK 0 (k122_0 (retK Tryz.prog (resOf Tryz.prog 122) K)))) (tl 38 (gl [t0, t1, t2, undefA, t4, t5, (.bool false)])) h n
theorem W122_eq (t0 t1 t2 : AV) (h : Heap) (n : Nat) (K : KT) : wpF Tryz.prog 122 [t0, t1, t2] h n K = W122 t0 t1 t2 h n K := by kernel_rfl
theorem W122_ok {t0 t1 t2 : AV} {h : Heap} {n : Nat} {K : KT} (hk : W122 t0 t1 t2 h n K) : callW Tryz.prog 122 [t0, t1, t2] h n K := callW_of_wpF mixed (by rw [W122_eq]; exact hk)
/-! ### 125: (*messuage/caps.Tree).Below$1 -/
noncomputable def W125 (t0 t1 t2 t3 t4 : AV) (h : Heap) (n : Nat) (K : KT) : Prop :=
 opW Tryz.prog (.box (.c t0)) h n fun t5 h n =>
 opW Tryz.prog (.box (.c t1)) h n fun t6 h n =>
 opW Tryz.prog (.ld false 1 (.c t2)) h n fun t8 h n =>
 opW Tryz.prog (.ld true 4 (.c t6)) h n fun t9 h n =>
 opW Tryz.prog (.ld false 1 (.c t3)) h n fun t10 h n =>
 opW Tryz.prog (.ld false 1 (.c t4)) h n fun t11 h n =>
 opW Tryz.prog (.build [(.int .i64 0), (.int .i64 0)] [(0, 1, (.c t10)), (1, 1, (.c t11))]) h n fun t12 h n =>
 callW Tryz.prog 122 [t8, t9, t12] h n fun t13 h n =>
 K t13 h n
theorem W125_eq (t0 t1 t2 t3 t4 : AV) (h : Heap) (n : Nat) (K : KT) : wpF Tryz.prog 125 [t0, t1, t2, t3, t4] h n K = W125 t0 t1 t2 t3 t4 h n K := by kernel_rfl
theorem W125_ok {t0 t1 t2 t3 t4 : AV} {h : Heap} {n : Nat} {K : KT} (hk : W125 t0 t1 t2 t3 t4 h n K) : callW Tryz.prog 125 [t0, t1, t2, t3, t4] h n K := callW_of_wpF mixed (by rw [W125_eq]; exact hk)
/-! ### 127: (*messuage/caps.Tree).Of$1 -/
noncomputable def W127 (t0 t1 t2 : AV) (h : Heap) (n : Nat) (K : KT) : Prop :=
 opW Tryz.prog (.box (.c t0)) h n fun t3 h n =>
 opW Tryz.prog (.box (.c t1)) h n fun t4 h n =>
 opW Tryz.prog (.fa 0 (.c t4)) h n fun t6 h n =>
 opW Tryz.prog (.ld false 1 (.c t6)) h n fun t7 h n =>
 opW Tryz.prog (.ld false 1 (.c t2)) h n fun t8 h n =>
 opW Tryz.prog (.bin .eql (.c t7) (.c t8)) h n fun t9 h n =>
 K t9 h n
theorem W127_eq (t0 t1 t2 : AV) (h : Heap) (n : Nat) (K : KT) : wpF Tryz.prog 127 [t0, t1, t2] h n K = W127 t0 t1 t2 h n K := by kernel_rfl
theorem W127_ok {t0 t1 t2 : AV} {h : Heap} {n : Nat} {K : KT} (hk : W127 t0 t1 t2 h n K) : callW Tryz.prog 127 [t0, t1, t2] h n K := callW_of_wpF mixed (by rw [W127_eq]; exact hk)
/-! ### 56: (*messuage/caps.Tree).Below -/
noncomputable def W56 (t0 t1 t2 : AV) (h : Heap) (n : Nat) (K : KT) : Prop :=
 opW Tryz.prog (.box (.c t0)) h n fun t3 h n =>
 opW Tryz.prog (.box (.c t1)) h n fun t4 h n =>
 opW Tryz.prog (.box (.c t2)) h n fun t5 h n =>
 opW Tryz.prog (.ld false 1 (.c t3)) h n fun t7 h n =>
 opW Tryz.prog (.mkf (.func 125) [] [(.c t3), (.c t4), (.c t5)]) h n fun t8 h n =>
 callW Tryz.prog 120 [t7, t8] h n fun t9 h n =>
 K t9 h n
theorem W56_eq (t0 t1 t2 : AV) (h : Heap) (n : Nat) (K : KT) : wpF Tryz.prog 56 [t0, t1, t2] h n K = W56 t0 t1 t2 h n K := by kernel_rfl
theorem W56_ok {t0 t1 t2 : AV} {h : Heap} {n : Nat} {K : KT} (hk : W56 t0 t1 t2 h n K) : callW Tryz.prog 56 [t0, t1, t2] h n K := callW_of_wpF mixed (by rw [W56_eq]; exact hk)
/-! ### 58: (*messuage/caps.Tree).Of -/
noncomputable def W58 (t0 t1 : AV) (h : Heap) (n : Nat) (K : KT) : Prop :=
 opW Tryz.prog (.box (.c t1)) h n fun t3 h n =>
 opW Tryz.prog (.mkf (.func 127) [] [(.c t3)]) h n fun t6 h n =>
 callW Tryz.prog 120 [t0, t6] h n fun t7 h n =>
 K t7 h n
theorem W58_eq (t0 t1 : AV) (h : Heap) (n : Nat) (K : KT) : wpF Tryz.prog 58 [t0, t1] h n K = W58 t0 t1 h n K := by kernel_rfl
theorem W58_ok {t0 t1 : AV} {h : Heap} {n : Nat} {K : KT} (hk : W58 t0 t1 h n K) : callW Tryz.prog 58 [t0, t1] h n K := callW_of_wpF mixed (by rw [W58_eq]; exact hk)
/-! ### 51: (*messuage/caps.Tree).Revoke -/
noncomputable def W51 (t0 t1 t2 : AV) (h : Heap) (n : Nat) (K : KT) : Prop :=
 callW Tryz.prog 118 [t0, t1, t2] h n fun t12 h n =>
 opW Tryz.prog (.bin .neq (.c t12) (.c (.int .i64 0))) h n fun t14 h n =>
 cndW t14
  (K (.tup [.nilsl, t12]) h n)
  (callW Tryz.prog 56 [t0, t1, t2] h n fun t20 h n =>
  callW Tryz.prog 119 [t0, t20] h n fun t21 h n =>
  K (.tup [t21, (.int .i64 0)]) h n)
theorem W51_eq (t0 t1 t2 : AV) (h : Heap) (n : Nat) (K : KT) : wpF Tryz.prog 51 [t0, t1, t2] h n K = W51 t0 t1 t2 h n K := by kernel_rfl
theorem W51_ok {t0 t1 t2 : AV} {h : Heap} {n : Nat} {K : KT} (hk : W51 t0 t1 t2 h n K) : callW Tryz.prog 51 [t0, t1, t2] h n K := callW_of_wpF mixed (by rw [W51_eq]; exact hk)
/-! ### 52: (*messuage/caps.Tree).Drop -/
noncomputable def W52 (t0 t1 t2 : AV) (h : Heap) (n : Nat) (K : KT) : Prop :=
 opW Tryz.prog (.box (.c t0)) h n fun t3 h n =>
 opW Tryz.prog (.ld false 1 (.c t3)) h n fun t10 h n =>
 callW Tryz.prog 118 [t10, t1, t2] h n fun t13 h n =>
 opW Tryz.prog (.bin .neq (.c t13) (.c (.int .i64 0))) h n fun t15 h n =>
 cndW t15
  (K (.tup [.nilsl, t13]) h n)
  (opW Tryz.prog (.build [(.int .i64 0), (.int .i64 0)] [(0, 1, (.c t1)), (1, 1, (.c t2))]) h n fun t19 h n =>
  opW Tryz.prog (.new 0 [(.int .i64 0), (.int .i64 0)]) h n fun t9 h n =>
  opW Tryz.prog (.st 2 (.c t9) (.c t19)) h n fun _ h n =>
  dopW Tryz.prog 0 (.ld false 1 (.c t3)) h n [] fun t20 h n p0 =>
  dopW Tryz.prog 1 (.ld false 1 (.c t3)) h n [p0] fun t21 h n p1 =>
  opW Tryz.prog (.mkf (.func 121) [] [(.c t9), (.c t3)]) h n fun t22 h n =>
  dcallW Tryz.prog 3 120 [t21, t22] h n [p0] fun t23 h n p3 =>
  dcallW Tryz.prog 4 119 [t20, t23] h n [] fun t24 h n p4 =>
  K (.tup [t24, (.int .i64 0)]) h n)
theorem W52_eq (t0 t1 t2 : AV) (h : Heap) (n : Nat) (K : KT) : wpF Tryz.prog 52 [t0, t1, t2] h n K = W52 t0 t1 t2 h n K := by kernel_rfl
theorem W52_ok {t0 t1 t2 : AV} {h : Heap} {n : Nat} {K : KT} (hk : W52 t0 t1 t2 h n K) : callW Tryz.prog 52 [t0, t1, t2] h n K := callW_of_wpF mixed (by rw [W52_eq]; exact hk)
end Go.Proofs.As0
/- Contracts: rights, slots, a tree of capabilities: one slot. -/
namespace Go.Proofs.As0
open Go Go.Eng
attribute [local irreducible] opW callW cvW invW grdW cndW ldR dopW dcallW dcvW dgrdW loopW

/-- pte.May -/
def mayR (r : Int) : Bool := decide (1 ≤ r ∧ r ≤ 3)

theorem may_ev (r : Int) (h : Heap) (n : Nat) : FEv Tryz.prog 113 [.int .i64 r] h n (.bool (mayR r)) h n := by
  refine fev_exact (W113_ok ?_)
  unfold W113
  repeat' (first
    | (refine cw_t ?_)
    | (refine cw_f ?_)
    | (refine gw_run ?_)
    | (refine gw_tf ?_)
    | (refine gw_ft ?_)
    | (refine gw_un ?_)
    | (refine ow_pick_t ?_)
    | (refine ow_pick_f ?_)
    | (refine ow_new ?_)
    | (refine ow_nck_p ?_)
    | (refine ow_nck_i ?_)
    | (refine ow_nck_f ?_)
    | (refine ow_mki ?_)
    | (refine ow_fa rfl ?_)
    | (refine ow_ext rfl ?_)
    | (refine ow_not rfl ?_)
    | (refine ow_peq_pn rfl ?_)
    | (refine ow_peq_nn rfl ?_)
    | (refine ow_peq_np rfl ?_)
    | (refine ow_ieq_in rfl ?_)
    | (refine ow_ieq_nn rfl ?_)
    | (refine ow_ieq_ni rfl ?_)
    | (refine ow_mkf rfl rfl ?_)
    | (refine ow_box (by first | (simp only [cellsA]; rfl) | rfl) ?_)
    | (refine ow_len rfl ?_)
    | (refine ow_lss_t (by omega) ?_)
    | (refine ow_lss_f (by omega) ?_)
    | (refine ow_leq_t (by omega) ?_)
    | (refine ow_leq_f (by omega) ?_)
    | (refine ow_gtr_t (by omega) ?_)
    | (refine ow_gtr_f (by omega) ?_)
    | (refine ow_geq_t (by omega) ?_)
    | (refine ow_geq_f (by omega) ?_)
    | (refine ow_eql_t (by omega) ?_)
    | (refine ow_eql_f (by omega) ?_)
    | (refine ow_neq_t (by omega) ?_)
    | (refine ow_neq_f (by omega) ?_)
    | (refine ow_add_i rfl (by omega) (by omega) ?_)
    | (refine ow_sub_i rfl (by omega) (by omega) ?_)
    | (refine ow_conv_i (by omega) (by omega) ?_)
    | (refine ow_conv_u (by omega) (by omega) ?_)
    | (refine ow_iaA (by omega) (by omega) rfl ?_)
    | (refine ow_iaS (by omega) (by omega) rfl ?_)
    | (refine ow_ld (by repeat (first | exact upd_same _ _ _ | assumption | refine upd_get (by omega) ?_)) (by first | exact part_all rfl | rfl | (simp only [partA, if_true, List.drop_succ_cons, List.drop_zero, List.take_succ_cons, List.take_zero, List.length_cons, List.length_nil, Nat.reduceAdd, Nat.zero_add]; rfl)) ?_)
    | (refine ow_st (by repeat (first | exact upd_same _ _ _ | assumption | refine upd_get (by omega) ?_)) (by first | (simp only [cellsA]; rfl) | rfl) rfl (by first | (simp; done) | exact Nat.le_refl _) rfl (by first | exact splice_all rfl | (simp only [splice, List.take_succ_cons, List.take_zero, List.drop_succ_cons, List.drop_zero, List.length_cons, List.length_nil, List.cons_append, List.nil_append, Nat.reduceAdd, Nat.zero_add, Nat.add_zero]; rfl)) ?_)
    | (refine ow_build (by simp only [repl, List.append_nil, fillA, List.map, ev, cellsA, splice, List.take_succ_cons, List.take_zero, List.drop_succ_cons, List.drop_zero, List.length_cons, List.length_nil, List.cons_append, List.nil_append, Nat.reduceAdd, Nat.zero_add, Nat.add_zero, true_and, and_self, if_true, Nat.reduceLeDiff, Nat.le_refl]; rfl) ?_)
    | (refine ow_bsl (by simp only [repl, List.append_nil, fillA, List.map, ev, cellsA, splice, List.take_succ_cons, List.take_zero, List.drop_succ_cons, List.drop_zero, List.length_cons, List.length_nil, List.cons_append, List.nil_append, Nat.reduceAdd, Nat.zero_add, Nat.add_zero, true_and, and_self, if_true, Nat.reduceLeDiff, Nat.le_refl]; rfl) ?_)
    | (refine ldR_of (by repeat (first | exact upd_same _ _ _ | assumption | refine upd_get (by omega) ?_)) (by first | exact part_all rfl | rfl | (simp only [partA, if_true, List.drop_succ_cons, List.drop_zero, List.take_succ_cons, List.take_zero, List.length_cons, List.length_nil, Nat.reduceAdd, Nat.zero_add]; rfl)) ?_)
    | (refine dow_ld (by repeat (first | exact upd_same _ _ _ | assumption | refine upd_get (by omega) ?_)) (by first | exact part_all rfl | rfl | (simp only [partA, if_true, List.drop_succ_cons, List.drop_zero, List.take_succ_cons, List.take_zero, List.length_cons, List.length_nil, Nat.reduceAdd, Nat.zero_add]; rfl)) (by simp only [meets, and_true]; (try (repeat' apply And.intro)); all_goals (intro z; simp only [fp_d, fp_f, List.mem_cons, List.not_mem_nil, or_false, false_or, not_false_eq_true, true_and, and_true, Bool.false_eq_true, false_and, not_or]; omega)) ?_)
    | (refine dow_new (by simp only [meets, and_true]; (try (repeat' apply And.intro)); all_goals (intro z; simp only [fp_d, fp_f, List.mem_cons, List.not_mem_nil, or_false, false_or, not_false_eq_true, true_and, and_true, Bool.false_eq_true, false_and, not_or]; omega)) ?_)
    | (refine dow_box (by first | (simp only [cellsA]; rfl) | rfl) (by simp only [meets, and_true]; (try (repeat' apply And.intro)); all_goals (intro z; simp only [fp_d, fp_f, List.mem_cons, List.not_mem_nil, or_false, false_or, not_false_eq_true, true_and, and_true, Bool.false_eq_true, false_and, not_or]; omega)) ?_)
    | (refine dow_st (by repeat (first | exact upd_same _ _ _ | assumption | refine upd_get (by omega) ?_)) (by first | (simp only [cellsA]; rfl) | rfl) rfl (by first | (simp; done) | exact Nat.le_refl _) rfl (by first | exact splice_all rfl | (simp only [splice, List.take_succ_cons, List.take_zero, List.drop_succ_cons, List.drop_zero, List.length_cons, List.length_nil, List.cons_append, List.nil_append, Nat.reduceAdd, Nat.zero_add, Nat.add_zero]; rfl)) (by simp only [meets, and_true]; (try (repeat' apply And.intro)); all_goals (intro z; simp only [fp_d, fp_f, List.mem_cons, List.not_mem_nil, or_false, false_or, not_false_eq_true, true_and, and_true, Bool.false_eq_true, false_and, not_or]; omega)) ?_)
    | (refine dgw_run ?_)
    | (refine dgw_tf ?_)
    | (refine dgw_ft ?_)
    | (refine dgw_un ?_)
    | (refine ow_lss (fun _ => ?_) (fun _ => ?_))
    | (refine ow_leq (fun _ => ?_) (fun _ => ?_))
    | (refine ow_gtr (fun _ => ?_) (fun _ => ?_))
    | (refine ow_geq (fun _ => ?_) (fun _ => ?_))
    | (refine ow_eql (fun _ => ?_) (fun _ => ?_))
    | (refine ow_neq (fun _ => ?_) (fun _ => ?_)))
  all_goals exact ⟨by simp [mayR]; omega, rfl, rfl⟩

/-- Rights that are among others. -/
def withinR (a b : Int) : Bool := mayR a && mayR b && (decide (a = b) || decide (b = 3))

theorem within_ev (a b : Int) (h : Heap) (n : Nat) : FEv Tryz.prog 117 [.int .i64 a, .int .i64 b] h n (.bool (withinR a b)) h n := by
  refine fev_exact (W117_ok ?_)
  unfold W117
  cases ha : mayR a with
  | false =>
    repeat' (first
      | (refine cal (may_ev _ _ _) ?_)
      | (rw [ha])
      | (refine cw_t ?_)
      | (refine cw_f ?_)
      | (refine gw_run ?_)
      | (refine gw_tf ?_)
      | (refine gw_ft ?_)
      | (refine gw_un ?_)
      | (refine ow_pick_t ?_)
      | (refine ow_pick_f ?_)
      | (refine ow_new ?_)
      | (refine ow_nck_p ?_)
      | (refine ow_nck_i ?_)
      | (refine ow_nck_f ?_)
      | (refine ow_mki ?_)
      | (refine ow_fa rfl ?_)
      | (refine ow_ext rfl ?_)
      | (refine ow_not rfl ?_)
      | (refine ow_peq_pn rfl ?_)
      | (refine ow_peq_nn rfl ?_)
      | (refine ow_peq_np rfl ?_)
      | (refine ow_ieq_in rfl ?_)
      | (refine ow_ieq_nn rfl ?_)
      | (refine ow_ieq_ni rfl ?_)
      | (refine ow_mkf rfl rfl ?_)
      | (refine ow_box (by first | (simp only [cellsA]; rfl) | rfl) ?_)
      | (refine ow_len rfl ?_)
      | (refine ow_lss_t (by omega) ?_)
      | (refine ow_lss_f (by omega) ?_)
      | (refine ow_leq_t (by omega) ?_)
      | (refine ow_leq_f (by omega) ?_)
      | (refine ow_gtr_t (by omega) ?_)
      | (refine ow_gtr_f (by omega) ?_)
      | (refine ow_geq_t (by omega) ?_)
      | (refine ow_geq_f (by omega) ?_)
      | (refine ow_eql_t (by omega) ?_)
      | (refine ow_eql_f (by omega) ?_)
      | (refine ow_neq_t (by omega) ?_)
      | (refine ow_neq_f (by omega) ?_)
      | (refine ow_add_i rfl (by omega) (by omega) ?_)
      | (refine ow_sub_i rfl (by omega) (by omega) ?_)
      | (refine ow_conv_i (by omega) (by omega) ?_)
      | (refine ow_conv_u (by omega) (by omega) ?_)
      | (refine ow_iaA (by omega) (by omega) rfl ?_)
      | (refine ow_iaS (by omega) (by omega) rfl ?_)
      | (refine ow_ld (by repeat (first | exact upd_same _ _ _ | assumption | refine upd_get (by omega) ?_)) (by first | exact part_all rfl | rfl | (simp only [partA, if_true, List.drop_succ_cons, List.drop_zero, List.take_succ_cons, List.take_zero, List.length_cons, List.length_nil, Nat.reduceAdd, Nat.zero_add]; rfl)) ?_)
      | (refine ow_st (by repeat (first | exact upd_same _ _ _ | assumption | refine upd_get (by omega) ?_)) (by first | (simp only [cellsA]; rfl) | rfl) rfl (by first | (simp; done) | exact Nat.le_refl _) rfl (by first | exact splice_all rfl | (simp only [splice, List.take_succ_cons, List.take_zero, List.drop_succ_cons, List.drop_zero, List.length_cons, List.length_nil, List.cons_append, List.nil_append, Nat.reduceAdd, Nat.zero_add, Nat.add_zero]; rfl)) ?_)
      | (refine ow_build (by simp only [repl, List.append_nil, fillA, List.map, ev, cellsA, splice, List.take_succ_cons, List.take_zero, List.drop_succ_cons, List.drop_zero, List.length_cons, List.length_nil, List.cons_append, List.nil_append, Nat.reduceAdd, Nat.zero_add, Nat.add_zero, true_and, and_self, if_true, Nat.reduceLeDiff, Nat.le_refl]; rfl) ?_)
      | (refine ow_bsl (by simp only [repl, List.append_nil, fillA, List.map, ev, cellsA, splice, List.take_succ_cons, List.take_zero, List.drop_succ_cons, List.drop_zero, List.length_cons, List.length_nil, List.cons_append, List.nil_append, Nat.reduceAdd, Nat.zero_add, Nat.add_zero, true_and, and_self, if_true, Nat.reduceLeDiff, Nat.le_refl]; rfl) ?_)
      | (refine ldR_of (by repeat (first | exact upd_same _ _ _ | assumption | refine upd_get (by omega) ?_)) (by first | exact part_all rfl | rfl | (simp only [partA, if_true, List.drop_succ_cons, List.drop_zero, List.take_succ_cons, List.take_zero, List.length_cons, List.length_nil, Nat.reduceAdd, Nat.zero_add]; rfl)) ?_)
      | (refine dow_ld (by repeat (first | exact upd_same _ _ _ | assumption | refine upd_get (by omega) ?_)) (by first | exact part_all rfl | rfl | (simp only [partA, if_true, List.drop_succ_cons, List.drop_zero, List.take_succ_cons, List.take_zero, List.length_cons, List.length_nil, Nat.reduceAdd, Nat.zero_add]; rfl)) (by simp only [meets, and_true]; (try (repeat' apply And.intro)); all_goals (intro z; simp only [fp_d, fp_f, List.mem_cons, List.not_mem_nil, or_false, false_or, not_false_eq_true, true_and, and_true, Bool.false_eq_true, false_and, not_or]; omega)) ?_)
      | (refine dow_new (by simp only [meets, and_true]; (try (repeat' apply And.intro)); all_goals (intro z; simp only [fp_d, fp_f, List.mem_cons, List.not_mem_nil, or_false, false_or, not_false_eq_true, true_and, and_true, Bool.false_eq_true, false_and, not_or]; omega)) ?_)
      | (refine dow_box (by first | (simp only [cellsA]; rfl) | rfl) (by simp only [meets, and_true]; (try (repeat' apply And.intro)); all_goals (intro z; simp only [fp_d, fp_f, List.mem_cons, List.not_mem_nil, or_false, false_or, not_false_eq_true, true_and, and_true, Bool.false_eq_true, false_and, not_or]; omega)) ?_)
      | (refine dow_st (by repeat (first | exact upd_same _ _ _ | assumption | refine upd_get (by omega) ?_)) (by first | (simp only [cellsA]; rfl) | rfl) rfl (by first | (simp; done) | exact Nat.le_refl _) rfl (by first | exact splice_all rfl | (simp only [splice, List.take_succ_cons, List.take_zero, List.drop_succ_cons, List.drop_zero, List.length_cons, List.length_nil, List.cons_append, List.nil_append, Nat.reduceAdd, Nat.zero_add, Nat.add_zero]; rfl)) (by simp only [meets, and_true]; (try (repeat' apply And.intro)); all_goals (intro z; simp only [fp_d, fp_f, List.mem_cons, List.not_mem_nil, or_false, false_or, not_false_eq_true, true_and, and_true, Bool.false_eq_true, false_and, not_or]; omega)) ?_)
      | (refine dgw_run ?_)
      | (refine dgw_tf ?_)
      | (refine dgw_ft ?_)
      | (refine dgw_un ?_)
      | (refine ow_lss (fun _ => ?_) (fun _ => ?_))
      | (refine ow_leq (fun _ => ?_) (fun _ => ?_))
      | (refine ow_gtr (fun _ => ?_) (fun _ => ?_))
      | (refine ow_geq (fun _ => ?_) (fun _ => ?_))
      | (refine ow_eql (fun _ => ?_) (fun _ => ?_))
      | (refine ow_neq (fun _ => ?_) (fun _ => ?_)))
    exact ⟨by simp [withinR, ha], rfl, rfl⟩
  | true =>
    cases hb : mayR b with
    | false =>
      repeat' (first
        | (refine cal (may_ev _ _ _) ?_)
        | (rw [ha])
        | (rw [hb])
        | (refine cw_t ?_)
        | (refine cw_f ?_)
        | (refine gw_run ?_)
        | (refine gw_tf ?_)
        | (refine gw_ft ?_)
        | (refine gw_un ?_)
        | (refine ow_pick_t ?_)
        | (refine ow_pick_f ?_)
        | (refine ow_new ?_)
        | (refine ow_nck_p ?_)
        | (refine ow_nck_i ?_)
        | (refine ow_nck_f ?_)
        | (refine ow_mki ?_)
        | (refine ow_fa rfl ?_)
        | (refine ow_ext rfl ?_)
        | (refine ow_not rfl ?_)
        | (refine ow_peq_pn rfl ?_)
        | (refine ow_peq_nn rfl ?_)
        | (refine ow_peq_np rfl ?_)
        | (refine ow_ieq_in rfl ?_)
        | (refine ow_ieq_nn rfl ?_)
        | (refine ow_ieq_ni rfl ?_)
        | (refine ow_mkf rfl rfl ?_)
        | (refine ow_box (by first | (simp only [cellsA]; rfl) | rfl) ?_)
        | (refine ow_len rfl ?_)
        | (refine ow_lss_t (by omega) ?_)
        | (refine ow_lss_f (by omega) ?_)
        | (refine ow_leq_t (by omega) ?_)
        | (refine ow_leq_f (by omega) ?_)
        | (refine ow_gtr_t (by omega) ?_)
        | (refine ow_gtr_f (by omega) ?_)
        | (refine ow_geq_t (by omega) ?_)
        | (refine ow_geq_f (by omega) ?_)
        | (refine ow_eql_t (by omega) ?_)
        | (refine ow_eql_f (by omega) ?_)
        | (refine ow_neq_t (by omega) ?_)
        | (refine ow_neq_f (by omega) ?_)
        | (refine ow_add_i rfl (by omega) (by omega) ?_)
        | (refine ow_sub_i rfl (by omega) (by omega) ?_)
        | (refine ow_conv_i (by omega) (by omega) ?_)
        | (refine ow_conv_u (by omega) (by omega) ?_)
        | (refine ow_iaA (by omega) (by omega) rfl ?_)
        | (refine ow_iaS (by omega) (by omega) rfl ?_)
        | (refine ow_ld (by repeat (first | exact upd_same _ _ _ | assumption | refine upd_get (by omega) ?_)) (by first | exact part_all rfl | rfl | (simp only [partA, if_true, List.drop_succ_cons, List.drop_zero, List.take_succ_cons, List.take_zero, List.length_cons, List.length_nil, Nat.reduceAdd, Nat.zero_add]; rfl)) ?_)
        | (refine ow_st (by repeat (first | exact upd_same _ _ _ | assumption | refine upd_get (by omega) ?_)) (by first | (simp only [cellsA]; rfl) | rfl) rfl (by first | (simp; done) | exact Nat.le_refl _) rfl (by first | exact splice_all rfl | (simp only [splice, List.take_succ_cons, List.take_zero, List.drop_succ_cons, List.drop_zero, List.length_cons, List.length_nil, List.cons_append, List.nil_append, Nat.reduceAdd, Nat.zero_add, Nat.add_zero]; rfl)) ?_)
        | (refine ow_build (by simp only [repl, List.append_nil, fillA, List.map, ev, cellsA, splice, List.take_succ_cons, List.take_zero, List.drop_succ_cons, List.drop_zero, List.length_cons, List.length_nil, List.cons_append, List.nil_append, Nat.reduceAdd, Nat.zero_add, Nat.add_zero, true_and, and_self, if_true, Nat.reduceLeDiff, Nat.le_refl]; rfl) ?_)
        | (refine ow_bsl (by simp only [repl, List.append_nil, fillA, List.map, ev, cellsA, splice, List.take_succ_cons, List.take_zero, List.drop_succ_cons, List.drop_zero, List.length_cons, List.length_nil, List.cons_append, List.nil_append, Nat.reduceAdd, Nat.zero_add, Nat.add_zero, true_and, and_self, if_true, Nat.reduceLeDiff, Nat.le_refl]; rfl) ?_)
        | (refine ldR_of (by repeat (first | exact upd_same _ _ _ | assumption | refine upd_get (by omega) ?_)) (by first | exact part_all rfl | rfl | (simp only [partA, if_true, List.drop_succ_cons, List.drop_zero, List.take_succ_cons, List.take_zero, List.length_cons, List.length_nil, Nat.reduceAdd, Nat.zero_add]; rfl)) ?_)
        | (refine dow_ld (by repeat (first | exact upd_same _ _ _ | assumption | refine upd_get (by omega) ?_)) (by first | exact part_all rfl | rfl | (simp only [partA, if_true, List.drop_succ_cons, List.drop_zero, List.take_succ_cons, List.take_zero, List.length_cons, List.length_nil, Nat.reduceAdd, Nat.zero_add]; rfl)) (by simp only [meets, and_true]; (try (repeat' apply And.intro)); all_goals (intro z; simp only [fp_d, fp_f, List.mem_cons, List.not_mem_nil, or_false, false_or, not_false_eq_true, true_and, and_true, Bool.false_eq_true, false_and, not_or]; omega)) ?_)
        | (refine dow_new (by simp only [meets, and_true]; (try (repeat' apply And.intro)); all_goals (intro z; simp only [fp_d, fp_f, List.mem_cons, List.not_mem_nil, or_false, false_or, not_false_eq_true, true_and, and_true, Bool.false_eq_true, false_and, not_or]; omega)) ?_)
        | (refine dow_box (by first | (simp only [cellsA]; rfl) | rfl) (by simp only [meets, and_true]; (try (repeat' apply And.intro)); all_goals (intro z; simp only [fp_d, fp_f, List.mem_cons, List.not_mem_nil, or_false, false_or, not_false_eq_true, true_and, and_true, Bool.false_eq_true, false_and, not_or]; omega)) ?_)
        | (refine dow_st (by repeat (first | exact upd_same _ _ _ | assumption | refine upd_get (by omega) ?_)) (by first | (simp only [cellsA]; rfl) | rfl) rfl (by first | (simp; done) | exact Nat.le_refl _) rfl (by first | exact splice_all rfl | (simp only [splice, List.take_succ_cons, List.take_zero, List.drop_succ_cons, List.drop_zero, List.length_cons, List.length_nil, List.cons_append, List.nil_append, Nat.reduceAdd, Nat.zero_add, Nat.add_zero]; rfl)) (by simp only [meets, and_true]; (try (repeat' apply And.intro)); all_goals (intro z; simp only [fp_d, fp_f, List.mem_cons, List.not_mem_nil, or_false, false_or, not_false_eq_true, true_and, and_true, Bool.false_eq_true, false_and, not_or]; omega)) ?_)
        | (refine dgw_run ?_)
        | (refine dgw_tf ?_)
        | (refine dgw_ft ?_)
        | (refine dgw_un ?_)
        | (refine ow_lss (fun _ => ?_) (fun _ => ?_))
        | (refine ow_leq (fun _ => ?_) (fun _ => ?_))
        | (refine ow_gtr (fun _ => ?_) (fun _ => ?_))
        | (refine ow_geq (fun _ => ?_) (fun _ => ?_))
        | (refine ow_eql (fun _ => ?_) (fun _ => ?_))
        | (refine ow_neq (fun _ => ?_) (fun _ => ?_)))
      exact ⟨by simp [withinR, hb], rfl, rfl⟩
    | true =>
      simp only [mayR, decide_eq_true_eq] at ha hb
      have ha' : a = 1 ∨ a = 2 ∨ a = 3 := by omega
      have hb' : b = 1 ∨ b = 2 ∨ b = 3 := by omega
      rcases ha' with rfl | rfl | rfl <;> rcases hb' with rfl | rfl | rfl
      all_goals
        repeat' (first
          | (refine cal (may_ev _ _ _) ?_)
          | (refine ow_bin (by rfl) ?_)
          | (refine cw_t ?_)
          | (refine cw_f ?_)
          | (refine gw_run ?_)
          | (refine gw_tf ?_)
          | (refine gw_ft ?_)
          | (refine gw_un ?_)
          | (refine ow_pick_t ?_)
          | (refine ow_pick_f ?_)
          | (refine ow_new ?_)
          | (refine ow_nck_p ?_)
          | (refine ow_nck_i ?_)
          | (refine ow_nck_f ?_)
          | (refine ow_mki ?_)
          | (refine ow_fa rfl ?_)
          | (refine ow_ext rfl ?_)
          | (refine ow_not rfl ?_)
          | (refine ow_peq_pn rfl ?_)
          | (refine ow_peq_nn rfl ?_)
          | (refine ow_peq_np rfl ?_)
          | (refine ow_ieq_in rfl ?_)
          | (refine ow_ieq_nn rfl ?_)
          | (refine ow_ieq_ni rfl ?_)
          | (refine ow_mkf rfl rfl ?_)
          | (refine ow_box (by first | (simp only [cellsA]; rfl) | rfl) ?_)
          | (refine ow_len rfl ?_)
          | (refine ow_lss_t (by omega) ?_)
          | (refine ow_lss_f (by omega) ?_)
          | (refine ow_leq_t (by omega) ?_)
          | (refine ow_leq_f (by omega) ?_)
          | (refine ow_gtr_t (by omega) ?_)
          | (refine ow_gtr_f (by omega) ?_)
          | (refine ow_geq_t (by omega) ?_)
          | (refine ow_geq_f (by omega) ?_)
          | (refine ow_eql_t (by omega) ?_)
          | (refine ow_eql_f (by omega) ?_)
          | (refine ow_neq_t (by omega) ?_)
          | (refine ow_neq_f (by omega) ?_)
          | (refine ow_add_i rfl (by omega) (by omega) ?_)
          | (refine ow_sub_i rfl (by omega) (by omega) ?_)
          | (refine ow_conv_i (by omega) (by omega) ?_)
          | (refine ow_conv_u (by omega) (by omega) ?_)
          | (refine ow_iaA (by omega) (by omega) rfl ?_)
          | (refine ow_iaS (by omega) (by omega) rfl ?_)
          | (refine ow_ld (by repeat (first | exact upd_same _ _ _ | assumption | refine upd_get (by omega) ?_)) (by first | exact part_all rfl | rfl | (simp only [partA, if_true, List.drop_succ_cons, List.drop_zero, List.take_succ_cons, List.take_zero, List.length_cons, List.length_nil, Nat.reduceAdd, Nat.zero_add]; rfl)) ?_)
          | (refine ow_st (by repeat (first | exact upd_same _ _ _ | assumption | refine upd_get (by omega) ?_)) (by first | (simp only [cellsA]; rfl) | rfl) rfl (by first | (simp; done) | exact Nat.le_refl _) rfl (by first | exact splice_all rfl | (simp only [splice, List.take_succ_cons, List.take_zero, List.drop_succ_cons, List.drop_zero, List.length_cons, List.length_nil, List.cons_append, List.nil_append, Nat.reduceAdd, Nat.zero_add, Nat.add_zero]; rfl)) ?_)
          | (refine ow_build (by simp only [repl, List.append_nil, fillA, List.map, ev, cellsA, splice, List.take_succ_cons, List.take_zero, List.drop_succ_cons, List.drop_zero, List.length_cons, List.length_nil, List.cons_append, List.nil_append, Nat.reduceAdd, Nat.zero_add, Nat.add_zero, true_and, and_self, if_true, Nat.reduceLeDiff, Nat.le_refl]; rfl) ?_)
          | (refine ow_bsl (by simp only [repl, List.append_nil, fillA, List.map, ev, cellsA, splice, List.take_succ_cons, List.take_zero, List.drop_succ_cons, List.drop_zero, List.length_cons, List.length_nil, List.cons_append, List.nil_append, Nat.reduceAdd, Nat.zero_add, Nat.add_zero, true_and, and_self, if_true, Nat.reduceLeDiff, Nat.le_refl]; rfl) ?_)
          | (refine ldR_of (by repeat (first | exact upd_same _ _ _ | assumption | refine upd_get (by omega) ?_)) (by first | exact part_all rfl | rfl | (simp only [partA, if_true, List.drop_succ_cons, List.drop_zero, List.take_succ_cons, List.take_zero, List.length_cons, List.length_nil, Nat.reduceAdd, Nat.zero_add]; rfl)) ?_)
          | (refine dow_ld (by repeat (first | exact upd_same _ _ _ | assumption | refine upd_get (by omega) ?_)) (by first | exact part_all rfl | rfl | (simp only [partA, if_true, List.drop_succ_cons, List.drop_zero, List.take_succ_cons, List.take_zero, List.length_cons, List.length_nil, Nat.reduceAdd, Nat.zero_add]; rfl)) (by simp only [meets, and_true]; (try (repeat' apply And.intro)); all_goals (intro z; simp only [fp_d, fp_f, List.mem_cons, List.not_mem_nil, or_false, false_or, not_false_eq_true, true_and, and_true, Bool.false_eq_true, false_and, not_or]; omega)) ?_)
          | (refine dow_new (by simp only [meets, and_true]; (try (repeat' apply And.intro)); all_goals (intro z; simp only [fp_d, fp_f, List.mem_cons, List.not_mem_nil, or_false, false_or, not_false_eq_true, true_and, and_true, Bool.false_eq_true, false_and, not_or]; omega)) ?_)
          | (refine dow_box (by first | (simp only [cellsA]; rfl) | rfl) (by simp only [meets, and_true]; (try (repeat' apply And.intro)); all_goals (intro z; simp only [fp_d, fp_f, List.mem_cons, List.not_mem_nil, or_false, false_or, not_false_eq_true, true_and, and_true, Bool.false_eq_true, false_and, not_or]; omega)) ?_)
          | (refine dow_st (by repeat (first | exact upd_same _ _ _ | assumption | refine upd_get (by omega) ?_)) (by first | (simp only [cellsA]; rfl) | rfl) rfl (by first | (simp; done) | exact Nat.le_refl _) rfl (by first | exact splice_all rfl | (simp only [splice, List.take_succ_cons, List.take_zero, List.drop_succ_cons, List.drop_zero, List.length_cons, List.length_nil, List.cons_append, List.nil_append, Nat.reduceAdd, Nat.zero_add, Nat.add_zero]; rfl)) (by simp only [meets, and_true]; (try (repeat' apply And.intro)); all_goals (intro z; simp only [fp_d, fp_f, List.mem_cons, List.not_mem_nil, or_false, false_or, not_false_eq_true, true_and, and_true, Bool.false_eq_true, false_and, not_or]; omega)) ?_)
          | (refine dgw_run ?_)
          | (refine dgw_tf ?_)
          | (refine dgw_ft ?_)
          | (refine dgw_un ?_)
          | (refine ow_lss (fun _ => ?_) (fun _ => ?_))
          | (refine ow_leq (fun _ => ?_) (fun _ => ?_))
          | (refine ow_gtr (fun _ => ?_) (fun _ => ?_))
          | (refine ow_geq (fun _ => ?_) (fun _ => ?_))
          | (refine ow_eql (fun _ => ?_) (fun _ => ?_))
          | (refine ow_neq (fun _ => ?_) (fun _ => ?_)))
        exact ⟨by rfl, rfl, rfl⟩

/-- caps.Tree.is -/
def isC (E : Nat) (env slot : Int) : Bool := decide (0 ≤ env ∧ env < (E : Int) ∧ 0 ≤ slot ∧ slot < 8)

theorem isC_iff {E : Nat} {env slot : Int} : isC E env slot = true ↔ 0 ≤ env ∧ env < (E : Int) ∧ 0 ≤ slot ∧ slot < 8 := by simp [isC]

theorem is_ev {t B E c : Nat} {h : Heap} (ht : h t = some (.cells 0 [.sl B 0 0 E (some c)])) (env slot : Int) (n : Nat) :
    FEv Tryz.prog 116 [.ptr t 0, .int .i64 env, .int .i64 slot] h n (.bool (isC E env slot)) h n := by
  refine fev_exact (W116_ok ?_)
  unfold W116
  repeat' (first
    | (refine cw_t ?_)
    | (refine cw_f ?_)
    | (refine gw_run ?_)
    | (refine gw_tf ?_)
    | (refine gw_ft ?_)
    | (refine gw_un ?_)
    | (refine ow_pick_t ?_)
    | (refine ow_pick_f ?_)
    | (refine ow_new ?_)
    | (refine ow_nck_p ?_)
    | (refine ow_nck_i ?_)
    | (refine ow_nck_f ?_)
    | (refine ow_mki ?_)
    | (refine ow_fa rfl ?_)
    | (refine ow_ext rfl ?_)
    | (refine ow_not rfl ?_)
    | (refine ow_peq_pn rfl ?_)
    | (refine ow_peq_nn rfl ?_)
    | (refine ow_peq_np rfl ?_)
    | (refine ow_ieq_in rfl ?_)
    | (refine ow_ieq_nn rfl ?_)
    | (refine ow_ieq_ni rfl ?_)
    | (refine ow_mkf rfl rfl ?_)
    | (refine ow_box (by first | (simp only [cellsA]; rfl) | rfl) ?_)
    | (refine ow_len rfl ?_)
    | (refine ow_lss_t (by omega) ?_)
    | (refine ow_lss_f (by omega) ?_)
    | (refine ow_leq_t (by omega) ?_)
    | (refine ow_leq_f (by omega) ?_)
    | (refine ow_gtr_t (by omega) ?_)
    | (refine ow_gtr_f (by omega) ?_)
    | (refine ow_geq_t (by omega) ?_)
    | (refine ow_geq_f (by omega) ?_)
    | (refine ow_eql_t (by omega) ?_)
    | (refine ow_eql_f (by omega) ?_)
    | (refine ow_neq_t (by omega) ?_)
    | (refine ow_neq_f (by omega) ?_)
    | (refine ow_add_i rfl (by omega) (by omega) ?_)
    | (refine ow_sub_i rfl (by omega) (by omega) ?_)
    | (refine ow_conv_i (by omega) (by omega) ?_)
    | (refine ow_conv_u (by omega) (by omega) ?_)
    | (refine ow_iaA (by omega) (by omega) rfl ?_)
    | (refine ow_iaS (by omega) (by omega) rfl ?_)
    | (refine ow_ld (by repeat (first | exact upd_same _ _ _ | assumption | refine upd_get (by omega) ?_)) (by first | exact part_all rfl | rfl | (simp only [partA, if_true, List.drop_succ_cons, List.drop_zero, List.take_succ_cons, List.take_zero, List.length_cons, List.length_nil, Nat.reduceAdd, Nat.zero_add]; rfl)) ?_)
    | (refine ow_st (by repeat (first | exact upd_same _ _ _ | assumption | refine upd_get (by omega) ?_)) (by first | (simp only [cellsA]; rfl) | rfl) rfl (by first | (simp; done) | exact Nat.le_refl _) rfl (by first | exact splice_all rfl | (simp only [splice, List.take_succ_cons, List.take_zero, List.drop_succ_cons, List.drop_zero, List.length_cons, List.length_nil, List.cons_append, List.nil_append, Nat.reduceAdd, Nat.zero_add, Nat.add_zero]; rfl)) ?_)
    | (refine ow_build (by simp only [repl, List.append_nil, fillA, List.map, ev, cellsA, splice, List.take_succ_cons, List.take_zero, List.drop_succ_cons, List.drop_zero, List.length_cons, List.length_nil, List.cons_append, List.nil_append, Nat.reduceAdd, Nat.zero_add, Nat.add_zero, true_and, and_self, if_true, Nat.reduceLeDiff, Nat.le_refl]; rfl) ?_)
    | (refine ow_bsl (by simp only [repl, List.append_nil, fillA, List.map, ev, cellsA, splice, List.take_succ_cons, List.take_zero, List.drop_succ_cons, List.drop_zero, List.length_cons, List.length_nil, List.cons_append, List.nil_append, Nat.reduceAdd, Nat.zero_add, Nat.add_zero, true_and, and_self, if_true, Nat.reduceLeDiff, Nat.le_refl]; rfl) ?_)
    | (refine ldR_of (by repeat (first | exact upd_same _ _ _ | assumption | refine upd_get (by omega) ?_)) (by first | exact part_all rfl | rfl | (simp only [partA, if_true, List.drop_succ_cons, List.drop_zero, List.take_succ_cons, List.take_zero, List.length_cons, List.length_nil, Nat.reduceAdd, Nat.zero_add]; rfl)) ?_)
    | (refine dow_ld (by repeat (first | exact upd_same _ _ _ | assumption | refine upd_get (by omega) ?_)) (by first | exact part_all rfl | rfl | (simp only [partA, if_true, List.drop_succ_cons, List.drop_zero, List.take_succ_cons, List.take_zero, List.length_cons, List.length_nil, Nat.reduceAdd, Nat.zero_add]; rfl)) (by simp only [meets, and_true]; (try (repeat' apply And.intro)); all_goals (intro z; simp only [fp_d, fp_f, List.mem_cons, List.not_mem_nil, or_false, false_or, not_false_eq_true, true_and, and_true, Bool.false_eq_true, false_and, not_or]; omega)) ?_)
    | (refine dow_new (by simp only [meets, and_true]; (try (repeat' apply And.intro)); all_goals (intro z; simp only [fp_d, fp_f, List.mem_cons, List.not_mem_nil, or_false, false_or, not_false_eq_true, true_and, and_true, Bool.false_eq_true, false_and, not_or]; omega)) ?_)
    | (refine dow_box (by first | (simp only [cellsA]; rfl) | rfl) (by simp only [meets, and_true]; (try (repeat' apply And.intro)); all_goals (intro z; simp only [fp_d, fp_f, List.mem_cons, List.not_mem_nil, or_false, false_or, not_false_eq_true, true_and, and_true, Bool.false_eq_true, false_and, not_or]; omega)) ?_)
    | (refine dow_st (by repeat (first | exact upd_same _ _ _ | assumption | refine upd_get (by omega) ?_)) (by first | (simp only [cellsA]; rfl) | rfl) rfl (by first | (simp; done) | exact Nat.le_refl _) rfl (by first | exact splice_all rfl | (simp only [splice, List.take_succ_cons, List.take_zero, List.drop_succ_cons, List.drop_zero, List.length_cons, List.length_nil, List.cons_append, List.nil_append, Nat.reduceAdd, Nat.zero_add, Nat.add_zero]; rfl)) (by simp only [meets, and_true]; (try (repeat' apply And.intro)); all_goals (intro z; simp only [fp_d, fp_f, List.mem_cons, List.not_mem_nil, or_false, false_or, not_false_eq_true, true_and, and_true, Bool.false_eq_true, false_and, not_or]; omega)) ?_)
    | (refine dgw_run ?_)
    | (refine dgw_tf ?_)
    | (refine dgw_ft ?_)
    | (refine dgw_un ?_)
    | (refine ow_lss (fun _ => ?_) (fun _ => ?_))
    | (refine ow_leq (fun _ => ?_) (fun _ => ?_))
    | (refine ow_gtr (fun _ => ?_) (fun _ => ?_))
    | (refine ow_geq (fun _ => ?_) (fun _ => ?_))
    | (refine ow_eql (fun _ => ?_) (fun _ => ?_))
    | (refine ow_neq (fun _ => ?_) (fun _ => ?_)))
  all_goals exact ⟨by simp [isC]; omega, rfl, rfl⟩

structure Cap where
  f : Int
  r : Int
  e : Int
  s : Int
def Cap.row (c : Cap) : List AV := [.int .i64 c.f, .int .i64 c.r, .int .i64 c.e, .int .i64 c.s]
def cap0 : Cap := ⟨0, 0, 0, 0⟩
theorem Cap.len (c : Cap) : c.row.length = 4 := rfl

section
variable {N q off : Nat} {L : Nat → Cap}
theorem cap_f (ho : off = q * 4) (hq : q < N) : partA false (enc Cap.row N L) off 1 = some (.int .i64 (L q).f) := by
  have := partA_field Cap.len (f := 0) (sz := 1) L hq (by omega)
  rw [ho]; exact this
theorem cap_r (ho : off = q * 4 + 1) (hq : q < N) : partA false (enc Cap.row N L) off 1 = some (.int .i64 (L q).r) := by
  rw [ho]; exact partA_field Cap.len L hq (by omega)
theorem cap_e (ho : off = q * 4 + 2) (hq : q < N) : partA false (enc Cap.row N L) off 1 = some (.int .i64 (L q).e) := by
  rw [ho]; exact partA_field Cap.len L hq (by omega)
theorem cap_s (ho : off = q * 4 + 3) (hq : q < N) : partA false (enc Cap.row N L) off 1 = some (.int .i64 (L q).s) := by
  rw [ho]; exact partA_field Cap.len L hq (by omega)
theorem cap_row (ho : off = q * 4) (hq : q < N) : partA true (enc Cap.row N L) off 4 = some (.agg (L q).row) := by
  rw [ho]; exact partA_row Cap.len L hq
theorem cap_put {c : Cap} (ho : off = q * 4) (hq : q < N) : splice (enc Cap.row N L) off c.row = enc Cap.row N (setF L q c) := by
  rw [ho]; exact splice_row Cap.len L hq c
theorem cap_fit (ho : off = q * 4) (hq : q < N) : off + 4 ≤ (enc Cap.row N L).length := by
  rw [enc_length Cap.len, ho]; omega
theorem cap_below (m : Nat) : belowL m (enc Cap.row N L) = true := belowL_enc fun i _ => rfl
end

/-- A tree in the heap: E environments, its cells in B. -/
structure TreeAt (h : Heap) (t B E : Nat) (L : Nat → Cap) : Prop where
  t : h t = some (.cells 0 [.sl B 0 0 E (some E)])
  b : h B = some (.cells 32 (enc Cap.row (8 * E) L))

theorem TreeAt.ne {h : Heap} {t B E : Nat} {L : Nat → Cap} (T : TreeAt h t B E L) : t ≠ B := by
  rintro rfl
  have := T.t.symm.trans T.b
  simp at this

/-- The heap with other capabilities. -/
def treeH (h : Heap) (B E : Nat) (L : Nat → Cap) : Heap := upd h B (some (.cells 32 (enc Cap.row (8 * E) L)))

theorem TreeAt.self {h : Heap} {t B E : Nat} {L : Nat → Cap} (T : TreeAt h t B E L) : treeH h B E L = h := by
  funext x
  unfold treeH upd
  split
  · rename_i e; rw [e, T.b]
  · rfl
theorem TreeAt.put {h : Heap} {t B E : Nat} {L : Nat → Cap} (T : TreeAt h t B E L) (L' : Nat → Cap) : TreeAt (treeH h B E L') t B E L' :=
  ⟨by unfold treeH; rw [upd_ne _ _ T.ne]; exact T.t, by unfold treeH; simp⟩
theorem treeH_treeH (h : Heap) (B E : Nat) (L L' : Nat → Cap) : treeH (treeH h B E L) B E L' = treeH h B E L' := by
  funext x
  simp only [treeH, upd]
  split <;> rfl
theorem treeH_good {n : Nat} {h : Heap} {t B E : Nat} {L : Nat → Cap} (g : Good n h) (T : TreeAt h t B E L) (L' : Nat → Cap) : Good n (treeH h B E L') := g.upd (g.lt T.b) (cap_below n)

/-- A tree stands as well where old blocks stay. -/
theorem TreeAt.keep {h h' : Heap} {n t B E : Nat} {L : Nat → Cap} (g : Good n h) (T : TreeAt h t B E L) (hk : ∀ x, x < n → h' x = h x) : TreeAt h' t B E L :=
  ⟨by rw [hk t (g.lt T.t)]; exact T.t, by rw [hk B (g.lt T.b)]; exact T.b⟩

def qi (env slot : Int) : Nat := 8 * env.toNat + slot.toNat

theorem qi_lt {E : Nat} {env slot : Int} (hi : isC E env slot = true) : qi env slot < 8 * E := by
  rw [isC_iff] at hi; unfold qi; omega

def at2 (E : Nat) (L : Nat → Cap) (env slot : Int) : Cap × Bool := if isC E env slot = true ∧ (L (qi env slot)).r ≠ 0 then (L (qi env slot), true) else (cap0, false)

theorem at_ev {t B E : Nat} {L : Nat → Cap} {h : Heap} {n : Nat} (g : Good n h) (T : TreeAt h t B E L) (env slot : Int) (m : Nat) :
    FEv Tryz.prog 59 [.ptr t 0, .int .i64 env, .int .i64 slot] h m (.tup [.agg (at2 E L env slot).1.row, .bool (at2 E L env slot).2]) h m := by
  have ht := T.t
  have hb := T.b
  have l1 := g.lt ht
  have l2 := g.lt hb
  refine fev_same g (by rw [glob4]; omega) (by simp [belowL, below]; exact l1) (by simp [below, belowL, Cap.row]) (W59_ok ?_) m
  unfold W59
  cases hi : isC E env slot with
  | false =>
    repeat' (first
      | (refine cal (is_ev (by repeat (first | exact upd_same _ _ _ | assumption | refine upd_get (by omega) ?_)) env slot _) ?_)
      | (rw [hi])
      | (refine cw_t ?_)
      | (refine cw_f ?_)
      | (refine gw_run ?_)
      | (refine gw_tf ?_)
      | (refine gw_ft ?_)
      | (refine gw_un ?_)
      | (refine ow_pick_t ?_)
      | (refine ow_pick_f ?_)
      | (refine ow_new ?_)
      | (refine ow_nck_p ?_)
      | (refine ow_nck_i ?_)
      | (refine ow_nck_f ?_)
      | (refine ow_mki ?_)
      | (refine ow_fa rfl ?_)
      | (refine ow_ext rfl ?_)
      | (refine ow_not rfl ?_)
      | (refine ow_peq_pn rfl ?_)
      | (refine ow_peq_nn rfl ?_)
      | (refine ow_peq_np rfl ?_)
      | (refine ow_ieq_in rfl ?_)
      | (refine ow_ieq_nn rfl ?_)
      | (refine ow_ieq_ni rfl ?_)
      | (refine ow_mkf rfl rfl ?_)
      | (refine ow_box (by first | (simp only [cellsA]; rfl) | rfl) ?_)
      | (refine ow_len rfl ?_)
      | (refine ow_lss_t (by omega) ?_)
      | (refine ow_lss_f (by omega) ?_)
      | (refine ow_leq_t (by omega) ?_)
      | (refine ow_leq_f (by omega) ?_)
      | (refine ow_gtr_t (by omega) ?_)
      | (refine ow_gtr_f (by omega) ?_)
      | (refine ow_geq_t (by omega) ?_)
      | (refine ow_geq_f (by omega) ?_)
      | (refine ow_eql_t (by omega) ?_)
      | (refine ow_eql_f (by omega) ?_)
      | (refine ow_neq_t (by omega) ?_)
      | (refine ow_neq_f (by omega) ?_)
      | (refine ow_add_i rfl (by omega) (by omega) ?_)
      | (refine ow_sub_i rfl (by omega) (by omega) ?_)
      | (refine ow_conv_i (by omega) (by omega) ?_)
      | (refine ow_conv_u (by omega) (by omega) ?_)
      | (refine ow_iaA (by omega) (by omega) rfl ?_)
      | (refine ow_iaS (by omega) (by omega) rfl ?_)
      | (refine ow_ld (by repeat (first | exact upd_same _ _ _ | assumption | refine upd_get (by omega) ?_)) (by first | exact part_all rfl | rfl | (simp only [partA, if_true, List.drop_succ_cons, List.drop_zero, List.take_succ_cons, List.take_zero, List.length_cons, List.length_nil, Nat.reduceAdd, Nat.zero_add]; rfl)) ?_)
      | (refine ow_st (by repeat (first | exact upd_same _ _ _ | assumption | refine upd_get (by omega) ?_)) (by first | (simp only [cellsA]; rfl) | rfl) rfl (by first | (simp; done) | exact Nat.le_refl _) rfl (by first | exact splice_all rfl | (simp only [splice, List.take_succ_cons, List.take_zero, List.drop_succ_cons, List.drop_zero, List.length_cons, List.length_nil, List.cons_append, List.nil_append, Nat.reduceAdd, Nat.zero_add, Nat.add_zero]; rfl)) ?_)
      | (refine ow_build (by simp only [repl, List.append_nil, fillA, List.map, ev, cellsA, splice, List.take_succ_cons, List.take_zero, List.drop_succ_cons, List.drop_zero, List.length_cons, List.length_nil, List.cons_append, List.nil_append, Nat.reduceAdd, Nat.zero_add, Nat.add_zero, true_and, and_self, if_true, Nat.reduceLeDiff, Nat.le_refl]; rfl) ?_)
      | (refine ow_bsl (by simp only [repl, List.append_nil, fillA, List.map, ev, cellsA, splice, List.take_succ_cons, List.take_zero, List.drop_succ_cons, List.drop_zero, List.length_cons, List.length_nil, List.cons_append, List.nil_append, Nat.reduceAdd, Nat.zero_add, Nat.add_zero, true_and, and_self, if_true, Nat.reduceLeDiff, Nat.le_refl]; rfl) ?_)
      | (refine ldR_of (by repeat (first | exact upd_same _ _ _ | assumption | refine upd_get (by omega) ?_)) (by first | exact part_all rfl | rfl | (simp only [partA, if_true, List.drop_succ_cons, List.drop_zero, List.take_succ_cons, List.take_zero, List.length_cons, List.length_nil, Nat.reduceAdd, Nat.zero_add]; rfl)) ?_)
      | (refine dow_ld (by repeat (first | exact upd_same _ _ _ | assumption | refine upd_get (by omega) ?_)) (by first | exact part_all rfl | rfl | (simp only [partA, if_true, List.drop_succ_cons, List.drop_zero, List.take_succ_cons, List.take_zero, List.length_cons, List.length_nil, Nat.reduceAdd, Nat.zero_add]; rfl)) (by simp only [meets, and_true]; (try (repeat' apply And.intro)); all_goals (intro z; simp only [fp_d, fp_f, List.mem_cons, List.not_mem_nil, or_false, false_or, not_false_eq_true, true_and, and_true, Bool.false_eq_true, false_and, not_or]; omega)) ?_)
      | (refine dow_new (by simp only [meets, and_true]; (try (repeat' apply And.intro)); all_goals (intro z; simp only [fp_d, fp_f, List.mem_cons, List.not_mem_nil, or_false, false_or, not_false_eq_true, true_and, and_true, Bool.false_eq_true, false_and, not_or]; omega)) ?_)
      | (refine dow_box (by first | (simp only [cellsA]; rfl) | rfl) (by simp only [meets, and_true]; (try (repeat' apply And.intro)); all_goals (intro z; simp only [fp_d, fp_f, List.mem_cons, List.not_mem_nil, or_false, false_or, not_false_eq_true, true_and, and_true, Bool.false_eq_true, false_and, not_or]; omega)) ?_)
      | (refine dow_st (by repeat (first | exact upd_same _ _ _ | assumption | refine upd_get (by omega) ?_)) (by first | (simp only [cellsA]; rfl) | rfl) rfl (by first | (simp; done) | exact Nat.le_refl _) rfl (by first | exact splice_all rfl | (simp only [splice, List.take_succ_cons, List.take_zero, List.drop_succ_cons, List.drop_zero, List.length_cons, List.length_nil, List.cons_append, List.nil_append, Nat.reduceAdd, Nat.zero_add, Nat.add_zero]; rfl)) (by simp only [meets, and_true]; (try (repeat' apply And.intro)); all_goals (intro z; simp only [fp_d, fp_f, List.mem_cons, List.not_mem_nil, or_false, false_or, not_false_eq_true, true_and, and_true, Bool.false_eq_true, false_and, not_or]; omega)) ?_)
      | (refine dgw_run ?_)
      | (refine dgw_tf ?_)
      | (refine dgw_ft ?_)
      | (refine dgw_un ?_)
      | (refine ow_lss (fun _ => ?_) (fun _ => ?_))
      | (refine ow_leq (fun _ => ?_) (fun _ => ?_))
      | (refine ow_gtr (fun _ => ?_) (fun _ => ?_))
      | (refine ow_geq (fun _ => ?_) (fun _ => ?_))
      | (refine ow_eql (fun _ => ?_) (fun _ => ?_))
      | (refine ow_neq (fun _ => ?_) (fun _ => ?_)))
    refine ⟨?_, fun x hx => by repeat (first | rfl | refine upd_get (by omega) ?_)⟩
    simp [at2, hi, Cap.row, cap0]
  | true =>
    have hq := qi_lt hi
    have hi' := hi
    rw [isC_iff] at hi'
    obtain ⟨i1, i2, i3, i4⟩ := hi'
    repeat' (first
      | (refine cal (is_ev (by repeat (first | exact upd_same _ _ _ | assumption | refine upd_get (by omega) ?_)) env slot _) ?_)
      | (rw [hi])
      | (refine ow_ld (by repeat (first | exact upd_same _ _ _ | assumption | refine upd_get (by omega) ?_)) (cap_r (q := qi env slot) (by unfold qi; omega) hq) ?_)
      | (refine ow_ld (by repeat (first | exact upd_same _ _ _ | assumption | refine upd_get (by omega) ?_)) (cap_row (q := qi env slot) (by unfold qi; omega) hq) ?_)
      | (refine cw_t ?_)
      | (refine cw_f ?_)
      | (refine gw_run ?_)
      | (refine gw_tf ?_)
      | (refine gw_ft ?_)
      | (refine gw_un ?_)
      | (refine ow_pick_t ?_)
      | (refine ow_pick_f ?_)
      | (refine ow_new ?_)
      | (refine ow_nck_p ?_)
      | (refine ow_nck_i ?_)
      | (refine ow_nck_f ?_)
      | (refine ow_mki ?_)
      | (refine ow_fa rfl ?_)
      | (refine ow_ext rfl ?_)
      | (refine ow_not rfl ?_)
      | (refine ow_peq_pn rfl ?_)
      | (refine ow_peq_nn rfl ?_)
      | (refine ow_peq_np rfl ?_)
      | (refine ow_ieq_in rfl ?_)
      | (refine ow_ieq_nn rfl ?_)
      | (refine ow_ieq_ni rfl ?_)
      | (refine ow_mkf rfl rfl ?_)
      | (refine ow_box (by first | (simp only [cellsA]; rfl) | rfl) ?_)
      | (refine ow_len rfl ?_)
      | (refine ow_lss_t (by omega) ?_)
      | (refine ow_lss_f (by omega) ?_)
      | (refine ow_leq_t (by omega) ?_)
      | (refine ow_leq_f (by omega) ?_)
      | (refine ow_gtr_t (by omega) ?_)
      | (refine ow_gtr_f (by omega) ?_)
      | (refine ow_geq_t (by omega) ?_)
      | (refine ow_geq_f (by omega) ?_)
      | (refine ow_eql_t (by omega) ?_)
      | (refine ow_eql_f (by omega) ?_)
      | (refine ow_neq_t (by omega) ?_)
      | (refine ow_neq_f (by omega) ?_)
      | (refine ow_add_i rfl (by omega) (by omega) ?_)
      | (refine ow_sub_i rfl (by omega) (by omega) ?_)
      | (refine ow_conv_i (by omega) (by omega) ?_)
      | (refine ow_conv_u (by omega) (by omega) ?_)
      | (refine ow_iaA (by omega) (by omega) rfl ?_)
      | (refine ow_iaS (by omega) (by omega) rfl ?_)
      | (refine ow_ld (by repeat (first | exact upd_same _ _ _ | assumption | refine upd_get (by omega) ?_)) (by first | exact part_all rfl | rfl | (simp only [partA, if_true, List.drop_succ_cons, List.drop_zero, List.take_succ_cons, List.take_zero, List.length_cons, List.length_nil, Nat.reduceAdd, Nat.zero_add]; rfl)) ?_)
      | (refine ow_st (by repeat (first | exact upd_same _ _ _ | assumption | refine upd_get (by omega) ?_)) (by first | (simp only [cellsA]; rfl) | rfl) rfl (by first | (simp; done) | exact Nat.le_refl _) rfl (by first | exact splice_all rfl | (simp only [splice, List.take_succ_cons, List.take_zero, List.drop_succ_cons, List.drop_zero, List.length_cons, List.length_nil, List.cons_append, List.nil_append, Nat.reduceAdd, Nat.zero_add, Nat.add_zero]; rfl)) ?_)
      | (refine ow_build (by simp only [repl, List.append_nil, fillA, List.map, ev, cellsA, splice, List.take_succ_cons, List.take_zero, List.drop_succ_cons, List.drop_zero, List.length_cons, List.length_nil, List.cons_append, List.nil_append, Nat.reduceAdd, Nat.zero_add, Nat.add_zero, true_and, and_self, if_true, Nat.reduceLeDiff, Nat.le_refl]; rfl) ?_)
      | (refine ow_bsl (by simp only [repl, List.append_nil, fillA, List.map, ev, cellsA, splice, List.take_succ_cons, List.take_zero, List.drop_succ_cons, List.drop_zero, List.length_cons, List.length_nil, List.cons_append, List.nil_append, Nat.reduceAdd, Nat.zero_add, Nat.add_zero, true_and, and_self, if_true, Nat.reduceLeDiff, Nat.le_refl]; rfl) ?_)
      | (refine ldR_of (by repeat (first | exact upd_same _ _ _ | assumption | refine upd_get (by omega) ?_)) (by first | exact part_all rfl | rfl | (simp only [partA, if_true, List.drop_succ_cons, List.drop_zero, List.take_succ_cons, List.take_zero, List.length_cons, List.length_nil, Nat.reduceAdd, Nat.zero_add]; rfl)) ?_)
      | (refine dow_ld (by repeat (first | exact upd_same _ _ _ | assumption | refine upd_get (by omega) ?_)) (by first | exact part_all rfl | rfl | (simp only [partA, if_true, List.drop_succ_cons, List.drop_zero, List.take_succ_cons, List.take_zero, List.length_cons, List.length_nil, Nat.reduceAdd, Nat.zero_add]; rfl)) (by simp only [meets, and_true]; (try (repeat' apply And.intro)); all_goals (intro z; simp only [fp_d, fp_f, List.mem_cons, List.not_mem_nil, or_false, false_or, not_false_eq_true, true_and, and_true, Bool.false_eq_true, false_and, not_or]; omega)) ?_)
      | (refine dow_new (by simp only [meets, and_true]; (try (repeat' apply And.intro)); all_goals (intro z; simp only [fp_d, fp_f, List.mem_cons, List.not_mem_nil, or_false, false_or, not_false_eq_true, true_and, and_true, Bool.false_eq_true, false_and, not_or]; omega)) ?_)
      | (refine dow_box (by first | (simp only [cellsA]; rfl) | rfl) (by simp only [meets, and_true]; (try (repeat' apply And.intro)); all_goals (intro z; simp only [fp_d, fp_f, List.mem_cons, List.not_mem_nil, or_false, false_or, not_false_eq_true, true_and, and_true, Bool.false_eq_true, false_and, not_or]; omega)) ?_)
      | (refine dow_st (by repeat (first | exact upd_same _ _ _ | assumption | refine upd_get (by omega) ?_)) (by first | (simp only [cellsA]; rfl) | rfl) rfl (by first | (simp; done) | exact Nat.le_refl _) rfl (by first | exact splice_all rfl | (simp only [splice, List.take_succ_cons, List.take_zero, List.drop_succ_cons, List.drop_zero, List.length_cons, List.length_nil, List.cons_append, List.nil_append, Nat.reduceAdd, Nat.zero_add, Nat.add_zero]; rfl)) (by simp only [meets, and_true]; (try (repeat' apply And.intro)); all_goals (intro z; simp only [fp_d, fp_f, List.mem_cons, List.not_mem_nil, or_false, false_or, not_false_eq_true, true_and, and_true, Bool.false_eq_true, false_and, not_or]; omega)) ?_)
      | (refine dgw_run ?_)
      | (refine dgw_tf ?_)
      | (refine dgw_ft ?_)
      | (refine dgw_un ?_)
      | (refine ow_lss (fun _ => ?_) (fun _ => ?_))
      | (refine ow_leq (fun _ => ?_) (fun _ => ?_))
      | (refine ow_gtr (fun _ => ?_) (fun _ => ?_))
      | (refine ow_geq (fun _ => ?_) (fun _ => ?_))
      | (refine ow_eql (fun _ => ?_) (fun _ => ?_))
      | (refine ow_neq (fun _ => ?_) (fun _ => ?_)))
    all_goals
      refine ⟨?_, fun x hx => by repeat (first | rfl | refine upd_get (by omega) ?_)⟩
      simp [at2, hi, Cap.row, cap0, *]
end Go.Proofs.As0
/- Contracts: a tree of capabilities: what is put in. -/
namespace Go.Proofs.As0
open Go Go.Eng
attribute [local irreducible] opW callW cvW invW grdW cndW ldR dopW dcallW dcvW dgrdW loopW

def rootS (E : Nat) (L : Nat → Cap) (env slot frame : Int) : Int × (Nat → Cap) :=
  if isC E env slot = false ∨ frame < 0 ∨ 16 ≤ frame then (2, L) else
  if (L (qi env slot)).r ≠ 0 then (4, L) else (0, setF L (qi env slot) ⟨frame, 3, -1, 0⟩)

theorem root_ev {t B E : Nat} {L : Nat → Cap} {h : Heap} {n : Nat} (g : Good n h) (T : TreeAt h t B E L) (env slot frame : Int) (m : Nat) :
    FEv Tryz.prog 48 [.ptr t 0, .int .i64 env, .int .i64 slot, .int .i64 frame] h m (.int .i64 (rootS E L env slot frame).1) (treeH h B E (rootS E L env slot frame).2) m := by
  have ht := T.t
  have hb := T.b
  have l1 := g.lt ht
  have l2 := g.lt hb
  refine fev_turn g (by rw [glob4]; omega) (by simp [belowL, below]; exact l1) (by simp [below]) (treeH_good g T _) (W48_ok ?_) m
  unfold W48
  cases hi : isC E env slot with
  | false =>
    repeat' (first
      | (refine cal (is_ev (by repeat (first | exact upd_same _ _ _ | assumption | refine upd_get (by omega) ?_)) env slot _) ?_)
      | (rw [hi])
      | (refine cw_t ?_)
      | (refine cw_f ?_)
      | (refine gw_run ?_)
      | (refine gw_tf ?_)
      | (refine gw_ft ?_)
      | (refine gw_un ?_)
      | (refine ow_pick_t ?_)
      | (refine ow_pick_f ?_)
      | (refine ow_new ?_)
      | (refine ow_nck_p ?_)
      | (refine ow_nck_i ?_)
      | (refine ow_nck_f ?_)
      | (refine ow_mki ?_)
      | (refine ow_fa rfl ?_)
      | (refine ow_ext rfl ?_)
      | (refine ow_not rfl ?_)
      | (refine ow_peq_pn rfl ?_)
      | (refine ow_peq_nn rfl ?_)
      | (refine ow_peq_np rfl ?_)
      | (refine ow_ieq_in rfl ?_)
      | (refine ow_ieq_nn rfl ?_)
      | (refine ow_ieq_ni rfl ?_)
      | (refine ow_mkf rfl rfl ?_)
      | (refine ow_box (by first | (simp only [cellsA]; rfl) | rfl) ?_)
      | (refine ow_len rfl ?_)
      | (refine ow_lss_t (by omega) ?_)
      | (refine ow_lss_f (by omega) ?_)
      | (refine ow_leq_t (by omega) ?_)
      | (refine ow_leq_f (by omega) ?_)
      | (refine ow_gtr_t (by omega) ?_)
      | (refine ow_gtr_f (by omega) ?_)
      | (refine ow_geq_t (by omega) ?_)
      | (refine ow_geq_f (by omega) ?_)
      | (refine ow_eql_t (by omega) ?_)
      | (refine ow_eql_f (by omega) ?_)
      | (refine ow_neq_t (by omega) ?_)
      | (refine ow_neq_f (by omega) ?_)
      | (refine ow_add_i rfl (by omega) (by omega) ?_)
      | (refine ow_sub_i rfl (by omega) (by omega) ?_)
      | (refine ow_conv_i (by omega) (by omega) ?_)
      | (refine ow_conv_u (by omega) (by omega) ?_)
      | (refine ow_iaA (by omega) (by omega) rfl ?_)
      | (refine ow_iaS (by omega) (by omega) rfl ?_)
      | (refine ow_ld (by repeat (first | exact upd_same _ _ _ | assumption | refine upd_get (by omega) ?_)) (by first | exact part_all rfl | rfl | (simp only [partA, if_true, List.drop_succ_cons, List.drop_zero, List.take_succ_cons, List.take_zero, List.length_cons, List.length_nil, Nat.reduceAdd, Nat.zero_add]; rfl)) ?_)
      | (refine ow_st (by repeat (first | exact upd_same _ _ _ | assumption | refine upd_get (by omega) ?_)) (by first | (simp only [cellsA]; rfl) | rfl) rfl (by first | (simp; done) | exact Nat.le_refl _) rfl (by first | exact splice_all rfl | (simp only [splice, List.take_succ_cons, List.take_zero, List.drop_succ_cons, List.drop_zero, List.length_cons, List.length_nil, List.cons_append, List.nil_append, Nat.reduceAdd, Nat.zero_add, Nat.add_zero]; rfl)) ?_)
      | (refine ow_build (by simp only [repl, List.append_nil, fillA, List.map, ev, cellsA, splice, List.take_succ_cons, List.take_zero, List.drop_succ_cons, List.drop_zero, List.length_cons, List.length_nil, List.cons_append, List.nil_append, Nat.reduceAdd, Nat.zero_add, Nat.add_zero, true_and, and_self, if_true, Nat.reduceLeDiff, Nat.le_refl]; rfl) ?_)
      | (refine ow_bsl (by simp only [repl, List.append_nil, fillA, List.map, ev, cellsA, splice, List.take_succ_cons, List.take_zero, List.drop_succ_cons, List.drop_zero, List.length_cons, List.length_nil, List.cons_append, List.nil_append, Nat.reduceAdd, Nat.zero_add, Nat.add_zero, true_and, and_self, if_true, Nat.reduceLeDiff, Nat.le_refl]; rfl) ?_)
      | (refine ldR_of (by repeat (first | exact upd_same _ _ _ | assumption | refine upd_get (by omega) ?_)) (by first | exact part_all rfl | rfl | (simp only [partA, if_true, List.drop_succ_cons, List.drop_zero, List.take_succ_cons, List.take_zero, List.length_cons, List.length_nil, Nat.reduceAdd, Nat.zero_add]; rfl)) ?_)
      | (refine dow_ld (by repeat (first | exact upd_same _ _ _ | assumption | refine upd_get (by omega) ?_)) (by first | exact part_all rfl | rfl | (simp only [partA, if_true, List.drop_succ_cons, List.drop_zero, List.take_succ_cons, List.take_zero, List.length_cons, List.length_nil, Nat.reduceAdd, Nat.zero_add]; rfl)) (by simp only [meets, and_true]; (try (repeat' apply And.intro)); all_goals (intro z; simp only [fp_d, fp_f, List.mem_cons, List.not_mem_nil, or_false, false_or, not_false_eq_true, true_and, and_true, Bool.false_eq_true, false_and, not_or]; omega)) ?_)
      | (refine dow_new (by simp only [meets, and_true]; (try (repeat' apply And.intro)); all_goals (intro z; simp only [fp_d, fp_f, List.mem_cons, List.not_mem_nil, or_false, false_or, not_false_eq_true, true_and, and_true, Bool.false_eq_true, false_and, not_or]; omega)) ?_)
      | (refine dow_box (by first | (simp only [cellsA]; rfl) | rfl) (by simp only [meets, and_true]; (try (repeat' apply And.intro)); all_goals (intro z; simp only [fp_d, fp_f, List.mem_cons, List.not_mem_nil, or_false, false_or, not_false_eq_true, true_and, and_true, Bool.false_eq_true, false_and, not_or]; omega)) ?_)
      | (refine dow_st (by repeat (first | exact upd_same _ _ _ | assumption | refine upd_get (by omega) ?_)) (by first | (simp only [cellsA]; rfl) | rfl) rfl (by first | (simp; done) | exact Nat.le_refl _) rfl (by first | exact splice_all rfl | (simp only [splice, List.take_succ_cons, List.take_zero, List.drop_succ_cons, List.drop_zero, List.length_cons, List.length_nil, List.cons_append, List.nil_append, Nat.reduceAdd, Nat.zero_add, Nat.add_zero]; rfl)) (by simp only [meets, and_true]; (try (repeat' apply And.intro)); all_goals (intro z; simp only [fp_d, fp_f, List.mem_cons, List.not_mem_nil, or_false, false_or, not_false_eq_true, true_and, and_true, Bool.false_eq_true, false_and, not_or]; omega)) ?_)
      | (refine dgw_run ?_)
      | (refine dgw_tf ?_)
      | (refine dgw_ft ?_)
      | (refine dgw_un ?_)
      | (refine ow_lss (fun _ => ?_) (fun _ => ?_))
      | (refine ow_leq (fun _ => ?_) (fun _ => ?_))
      | (refine ow_gtr (fun _ => ?_) (fun _ => ?_))
      | (refine ow_geq (fun _ => ?_) (fun _ => ?_))
      | (refine ow_eql (fun _ => ?_) (fun _ => ?_))
      | (refine ow_neq (fun _ => ?_) (fun _ => ?_)))
    have e : rootS E L env slot frame = (2, L) := by simp [rootS, hi]
    rw [e, T.self]
    exact ⟨rfl, fun x hx => rfl⟩
  | true =>
    have hq := qi_lt hi
    have hi' := hi
    rw [isC_iff] at hi'
    obtain ⟨i1, i2, i3, i4⟩ := hi'
    repeat' (first
      | (refine cal (is_ev (by repeat (first | exact upd_same _ _ _ | assumption | refine upd_get (by omega) ?_)) env slot _) ?_)
      | (rw [hi])
      | (refine ow_ld (by repeat (first | exact upd_same _ _ _ | assumption | refine upd_get (by omega) ?_)) (cap_r (q := qi env slot) (by unfold qi; omega) hq) ?_)
      | (refine ow_st (by repeat (first | exact upd_same _ _ _ | assumption | refine upd_get (by omega) ?_)) (cs' := enc Cap.row (8 * E) (setF L (qi env slot) ⟨frame, 3, -1, 0⟩)) (by first | (simp only [cellsA]; rfl) | rfl) rfl (cap_fit (q := qi env slot) (by unfold qi; omega) hq) rfl (cap_put (q := qi env slot) (c := ⟨frame, 3, -1, 0⟩) (by unfold qi; omega) hq) ?_)
      | (refine cw_t ?_)
      | (refine cw_f ?_)
      | (refine gw_run ?_)
      | (refine gw_tf ?_)
      | (refine gw_ft ?_)
      | (refine gw_un ?_)
      | (refine ow_pick_t ?_)
      | (refine ow_pick_f ?_)
      | (refine ow_new ?_)
      | (refine ow_nck_p ?_)
      | (refine ow_nck_i ?_)
      | (refine ow_nck_f ?_)
      | (refine ow_mki ?_)
      | (refine ow_fa rfl ?_)
      | (refine ow_ext rfl ?_)
      | (refine ow_not rfl ?_)
      | (refine ow_peq_pn rfl ?_)
      | (refine ow_peq_nn rfl ?_)
      | (refine ow_peq_np rfl ?_)
      | (refine ow_ieq_in rfl ?_)
      | (refine ow_ieq_nn rfl ?_)
      | (refine ow_ieq_ni rfl ?_)
      | (refine ow_mkf rfl rfl ?_)
      | (refine ow_box (by first | (simp only [cellsA]; rfl) | rfl) ?_)
      | (refine ow_len rfl ?_)
      | (refine ow_lss_t (by omega) ?_)
      | (refine ow_lss_f (by omega) ?_)
      | (refine ow_leq_t (by omega) ?_)
      | (refine ow_leq_f (by omega) ?_)
      | (refine ow_gtr_t (by omega) ?_)
      | (refine ow_gtr_f (by omega) ?_)
      | (refine ow_geq_t (by omega) ?_)
      | (refine ow_geq_f (by omega) ?_)
      | (refine ow_eql_t (by omega) ?_)
      | (refine ow_eql_f (by omega) ?_)
      | (refine ow_neq_t (by omega) ?_)
      | (refine ow_neq_f (by omega) ?_)
      | (refine ow_add_i rfl (by omega) (by omega) ?_)
      | (refine ow_sub_i rfl (by omega) (by omega) ?_)
      | (refine ow_conv_i (by omega) (by omega) ?_)
      | (refine ow_conv_u (by omega) (by omega) ?_)
      | (refine ow_iaA (by omega) (by omega) rfl ?_)
      | (refine ow_iaS (by omega) (by omega) rfl ?_)
      | (refine ow_ld (by repeat (first | exact upd_same _ _ _ | assumption | refine upd_get (by omega) ?_)) (by first | exact part_all rfl | rfl | (simp only [partA, if_true, List.drop_succ_cons, List.drop_zero, List.take_succ_cons, List.take_zero, List.length_cons, List.length_nil, Nat.reduceAdd, Nat.zero_add]; rfl)) ?_)
      | (refine ow_st (by repeat (first | exact upd_same _ _ _ | assumption | refine upd_get (by omega) ?_)) (by first | (simp only [cellsA]; rfl) | rfl) rfl (by first | (simp; done) | exact Nat.le_refl _) rfl (by first | exact splice_all rfl | (simp only [splice, List.take_succ_cons, List.take_zero, List.drop_succ_cons, List.drop_zero, List.length_cons, List.length_nil, List.cons_append, List.nil_append, Nat.reduceAdd, Nat.zero_add, Nat.add_zero]; rfl)) ?_)
      | (refine ow_build (by simp only [repl, List.append_nil, fillA, List.map, ev, cellsA, splice, List.take_succ_cons, List.take_zero, List.drop_succ_cons, List.drop_zero, List.length_cons, List.length_nil, List.cons_append, List.nil_append, Nat.reduceAdd, Nat.zero_add, Nat.add_zero, true_and, and_self, if_true, Nat.reduceLeDiff, Nat.le_refl]; rfl) ?_)
      | (refine ow_bsl (by simp only [repl, List.append_nil, fillA, List.map, ev, cellsA, splice, List.take_succ_cons, List.take_zero, List.drop_succ_cons, List.drop_zero, List.length_cons, List.length_nil, List.cons_append, List.nil_append, Nat.reduceAdd, Nat.zero_add, Nat.add_zero, true_and, and_self, if_true, Nat.reduceLeDiff, Nat.le_refl]; rfl) ?_)
      | (refine ldR_of (by repeat (first | exact upd_same _ _ _ | assumption | refine upd_get (by omega) ?_)) (by first | exact part_all rfl | rfl | (simp only [partA, if_true, List.drop_succ_cons, List.drop_zero, List.take_succ_cons, List.take_zero, List.length_cons, List.length_nil, Nat.reduceAdd, Nat.zero_add]; rfl)) ?_)
      | (refine dow_ld (by repeat (first | exact upd_same _ _ _ | assumption | refine upd_get (by omega) ?_)) (by first | exact part_all rfl | rfl | (simp only [partA, if_true, List.drop_succ_cons, List.drop_zero, List.take_succ_cons, List.take_zero, List.length_cons, List.length_nil, Nat.reduceAdd, Nat.zero_add]; rfl)) (by simp only [meets, and_true]; (try (repeat' apply And.intro)); all_goals (intro z; simp only [fp_d, fp_f, List.mem_cons, List.not_mem_nil, or_false, false_or, not_false_eq_true, true_and, and_true, Bool.false_eq_true, false_and, not_or]; omega)) ?_)
      | (refine dow_new (by simp only [meets, and_true]; (try (repeat' apply And.intro)); all_goals (intro z; simp only [fp_d, fp_f, List.mem_cons, List.not_mem_nil, or_false, false_or, not_false_eq_true, true_and, and_true, Bool.false_eq_true, false_and, not_or]; omega)) ?_)
      | (refine dow_box (by first | (simp only [cellsA]; rfl) | rfl) (by simp only [meets, and_true]; (try (repeat' apply And.intro)); all_goals (intro z; simp only [fp_d, fp_f, List.mem_cons, List.not_mem_nil, or_false, false_or, not_false_eq_true, true_and, and_true, Bool.false_eq_true, false_and, not_or]; omega)) ?_)
      | (refine dow_st (by repeat (first | exact upd_same _ _ _ | assumption | refine upd_get (by omega) ?_)) (by first | (simp only [cellsA]; rfl) | rfl) rfl (by first | (simp; done) | exact Nat.le_refl _) rfl (by first | exact splice_all rfl | (simp only [splice, List.take_succ_cons, List.take_zero, List.drop_succ_cons, List.drop_zero, List.length_cons, List.length_nil, List.cons_append, List.nil_append, Nat.reduceAdd, Nat.zero_add, Nat.add_zero]; rfl)) (by simp only [meets, and_true]; (try (repeat' apply And.intro)); all_goals (intro z; simp only [fp_d, fp_f, List.mem_cons, List.not_mem_nil, or_false, false_or, not_false_eq_true, true_and, and_true, Bool.false_eq_true, false_and, not_or]; omega)) ?_)
      | (refine dgw_run ?_)
      | (refine dgw_tf ?_)
      | (refine dgw_ft ?_)
      | (refine dgw_un ?_)
      | (refine ow_lss (fun _ => ?_) (fun _ => ?_))
      | (refine ow_leq (fun _ => ?_) (fun _ => ?_))
      | (refine ow_gtr (fun _ => ?_) (fun _ => ?_))
      | (refine ow_geq (fun _ => ?_) (fun _ => ?_))
      | (refine ow_eql (fun _ => ?_) (fun _ => ?_))
      | (refine ow_neq (fun _ => ?_) (fun _ => ?_)))
    · have e : rootS E L env slot frame = (2, L) := by simp [rootS, *]
      rw [e, T.self]
      exact ⟨rfl, fun x hx => rfl⟩
    · have e : rootS E L env slot frame = (2, L) := by simp [rootS, *]
      rw [e, T.self]
      exact ⟨rfl, fun x hx => rfl⟩
    · have e : rootS E L env slot frame = (4, L) := by
        unfold rootS; rw [if_neg (by simp [hi]; omega), if_pos (by assumption)]
      rw [e, T.self]
      exact ⟨rfl, fun x hx => rfl⟩
    · have e : rootS E L env slot frame = (0, setF L (qi env slot) ⟨frame, 3, -1, 0⟩) := by
        unfold rootS; rw [if_neg (by simp [hi]; omega), if_neg (by simp; assumption)]
      rw [e]
      exact ⟨rfl, fun x hx => rfl⟩

def deriveS (E : Nat) (L : Nat → Cap) (env src to dst rights : Int) : Int × (Nat → Cap) :=
  if isC E env src = false ∨ isC E to dst = false ∨ mayR rights = false then (2, L) else
  if (L (qi env src)).r = 0 then (3, L) else
  if (L (qi to dst)).r ≠ 0 then (4, L) else
  if withinR rights (L (qi env src)).r = false then (5, L) else (0, setF L (qi to dst) ⟨(L (qi env src)).f, rights, env, src⟩)

theorem derive_ev {t B E : Nat} {L : Nat → Cap} {h : Heap} {n : Nat} (g : Good n h) (T : TreeAt h t B E L) (env src to dst rights : Int) (m : Nat) :
    FEv Tryz.prog 50 [.ptr t 0, .int .i64 env, .int .i64 src, .int .i64 to, .int .i64 dst, .int .i64 rights] h m (.int .i64 (deriveS E L env src to dst rights).1) (treeH h B E (deriveS E L env src to dst rights).2) m := by
  have ht := T.t
  have hb := T.b
  have l1 := g.lt ht
  have l2 := g.lt hb
  refine fev_turn g (by rw [glob4]; omega) (by simp [belowL, below]; exact l1) (by simp [below]) (treeH_good g T _) (W50_ok ?_) m
  unfold W50
  have bad : deriveS E L env src to dst rights = (2, L) → ((.int .i64 2 : AV) = .int .i64 (deriveS E L env src to dst rights).1 ∧ ∀ x, x < n → h x = treeH h B E (deriveS E L env src to dst rights).2 x) := by
    intro e
    rw [e, T.self]
    exact ⟨rfl, fun x hx => rfl⟩
  cases hi : isC E env src with
  | false =>
    repeat' (first
      | (refine cal (is_ev (by repeat (first | exact upd_same _ _ _ | assumption | refine upd_get (by omega) ?_)) env src _) ?_)
      | (rw [hi])
      | (refine cw_t ?_)
      | (refine cw_f ?_)
      | (refine gw_run ?_)
      | (refine gw_tf ?_)
      | (refine gw_ft ?_)
      | (refine gw_un ?_)
      | (refine ow_pick_t ?_)
      | (refine ow_pick_f ?_)
      | (refine ow_new ?_)
      | (refine ow_nck_p ?_)
      | (refine ow_nck_i ?_)
      | (refine ow_nck_f ?_)
      | (refine ow_mki ?_)
      | (refine ow_fa rfl ?_)
      | (refine ow_ext rfl ?_)
      | (refine ow_not rfl ?_)
      | (refine ow_peq_pn rfl ?_)
      | (refine ow_peq_nn rfl ?_)
      | (refine ow_peq_np rfl ?_)
      | (refine ow_ieq_in rfl ?_)
      | (refine ow_ieq_nn rfl ?_)
      | (refine ow_ieq_ni rfl ?_)
      | (refine ow_mkf rfl rfl ?_)
      | (refine ow_box (by first | (simp only [cellsA]; rfl) | rfl) ?_)
      | (refine ow_len rfl ?_)
      | (refine ow_lss_t (by omega) ?_)
      | (refine ow_lss_f (by omega) ?_)
      | (refine ow_leq_t (by omega) ?_)
      | (refine ow_leq_f (by omega) ?_)
      | (refine ow_gtr_t (by omega) ?_)
      | (refine ow_gtr_f (by omega) ?_)
      | (refine ow_geq_t (by omega) ?_)
      | (refine ow_geq_f (by omega) ?_)
      | (refine ow_eql_t (by omega) ?_)
      | (refine ow_eql_f (by omega) ?_)
      | (refine ow_neq_t (by omega) ?_)
      | (refine ow_neq_f (by omega) ?_)
      | (refine ow_add_i rfl (by omega) (by omega) ?_)
      | (refine ow_sub_i rfl (by omega) (by omega) ?_)
      | (refine ow_conv_i (by omega) (by omega) ?_)
      | (refine ow_conv_u (by omega) (by omega) ?_)
      | (refine ow_iaA (by omega) (by omega) rfl ?_)
      | (refine ow_iaS (by omega) (by omega) rfl ?_)
      | (refine ow_ld (by repeat (first | exact upd_same _ _ _ | assumption | refine upd_get (by omega) ?_)) (by first | exact part_all rfl | rfl | (simp only [partA, if_true, List.drop_succ_cons, List.drop_zero, List.take_succ_cons, List.take_zero, List.length_cons, List.length_nil, Nat.reduceAdd, Nat.zero_add]; rfl)) ?_)
      | (refine ow_st (by repeat (first | exact upd_same _ _ _ | assumption | refine upd_get (by omega) ?_)) (by first | (simp only [cellsA]; rfl) | rfl) rfl (by first | (simp; done) | exact Nat.le_refl _) rfl (by first | exact splice_all rfl | (simp only [splice, List.take_succ_cons, List.take_zero, List.drop_succ_cons, List.drop_zero, List.length_cons, List.length_nil, List.cons_append, List.nil_append, Nat.reduceAdd, Nat.zero_add, Nat.add_zero]; rfl)) ?_)
      | (refine ow_build (by simp only [repl, List.append_nil, fillA, List.map, ev, cellsA, splice, List.take_succ_cons, List.take_zero, List.drop_succ_cons, List.drop_zero, List.length_cons, List.length_nil, List.cons_append, List.nil_append, Nat.reduceAdd, Nat.zero_add, Nat.add_zero, true_and, and_self, if_true, Nat.reduceLeDiff, Nat.le_refl]; rfl) ?_)
      | (refine ow_bsl (by simp only [repl, List.append_nil, fillA, List.map, ev, cellsA, splice, List.take_succ_cons, List.take_zero, List.drop_succ_cons, List.drop_zero, List.length_cons, List.length_nil, List.cons_append, List.nil_append, Nat.reduceAdd, Nat.zero_add, Nat.add_zero, true_and, and_self, if_true, Nat.reduceLeDiff, Nat.le_refl]; rfl) ?_)
      | (refine ldR_of (by repeat (first | exact upd_same _ _ _ | assumption | refine upd_get (by omega) ?_)) (by first | exact part_all rfl | rfl | (simp only [partA, if_true, List.drop_succ_cons, List.drop_zero, List.take_succ_cons, List.take_zero, List.length_cons, List.length_nil, Nat.reduceAdd, Nat.zero_add]; rfl)) ?_)
      | (refine dow_ld (by repeat (first | exact upd_same _ _ _ | assumption | refine upd_get (by omega) ?_)) (by first | exact part_all rfl | rfl | (simp only [partA, if_true, List.drop_succ_cons, List.drop_zero, List.take_succ_cons, List.take_zero, List.length_cons, List.length_nil, Nat.reduceAdd, Nat.zero_add]; rfl)) (by simp only [meets, and_true]; (try (repeat' apply And.intro)); all_goals (intro z; simp only [fp_d, fp_f, List.mem_cons, List.not_mem_nil, or_false, false_or, not_false_eq_true, true_and, and_true, Bool.false_eq_true, false_and, not_or]; omega)) ?_)
      | (refine dow_new (by simp only [meets, and_true]; (try (repeat' apply And.intro)); all_goals (intro z; simp only [fp_d, fp_f, List.mem_cons, List.not_mem_nil, or_false, false_or, not_false_eq_true, true_and, and_true, Bool.false_eq_true, false_and, not_or]; omega)) ?_)
      | (refine dow_box (by first | (simp only [cellsA]; rfl) | rfl) (by simp only [meets, and_true]; (try (repeat' apply And.intro)); all_goals (intro z; simp only [fp_d, fp_f, List.mem_cons, List.not_mem_nil, or_false, false_or, not_false_eq_true, true_and, and_true, Bool.false_eq_true, false_and, not_or]; omega)) ?_)
      | (refine dow_st (by repeat (first | exact upd_same _ _ _ | assumption | refine upd_get (by omega) ?_)) (by first | (simp only [cellsA]; rfl) | rfl) rfl (by first | (simp; done) | exact Nat.le_refl _) rfl (by first | exact splice_all rfl | (simp only [splice, List.take_succ_cons, List.take_zero, List.drop_succ_cons, List.drop_zero, List.length_cons, List.length_nil, List.cons_append, List.nil_append, Nat.reduceAdd, Nat.zero_add, Nat.add_zero]; rfl)) (by simp only [meets, and_true]; (try (repeat' apply And.intro)); all_goals (intro z; simp only [fp_d, fp_f, List.mem_cons, List.not_mem_nil, or_false, false_or, not_false_eq_true, true_and, and_true, Bool.false_eq_true, false_and, not_or]; omega)) ?_)
      | (refine dgw_run ?_)
      | (refine dgw_tf ?_)
      | (refine dgw_ft ?_)
      | (refine dgw_un ?_)
      | (refine ow_lss (fun _ => ?_) (fun _ => ?_))
      | (refine ow_leq (fun _ => ?_) (fun _ => ?_))
      | (refine ow_gtr (fun _ => ?_) (fun _ => ?_))
      | (refine ow_geq (fun _ => ?_) (fun _ => ?_))
      | (refine ow_eql (fun _ => ?_) (fun _ => ?_))
      | (refine ow_neq (fun _ => ?_) (fun _ => ?_)))
    exact bad (by simp [deriveS, hi])
  | true =>
    cases hj : isC E to dst with
    | false =>
      repeat' (first
        | (refine cal (is_ev (by repeat (first | exact upd_same _ _ _ | assumption | refine upd_get (by omega) ?_)) env src _) ?_)
        | (rw [hi])
        | (refine cal (is_ev (by repeat (first | exact upd_same _ _ _ | assumption | refine upd_get (by omega) ?_)) to dst _) ?_)
        | (rw [hj])
        | (refine cw_t ?_)
        | (refine cw_f ?_)
        | (refine gw_run ?_)
        | (refine gw_tf ?_)
        | (refine gw_ft ?_)
        | (refine gw_un ?_)
        | (refine ow_pick_t ?_)
        | (refine ow_pick_f ?_)
        | (refine ow_new ?_)
        | (refine ow_nck_p ?_)
        | (refine ow_nck_i ?_)
        | (refine ow_nck_f ?_)
        | (refine ow_mki ?_)
        | (refine ow_fa rfl ?_)
        | (refine ow_ext rfl ?_)
        | (refine ow_not rfl ?_)
        | (refine ow_peq_pn rfl ?_)
        | (refine ow_peq_nn rfl ?_)
        | (refine ow_peq_np rfl ?_)
        | (refine ow_ieq_in rfl ?_)
        | (refine ow_ieq_nn rfl ?_)
        | (refine ow_ieq_ni rfl ?_)
        | (refine ow_mkf rfl rfl ?_)
        | (refine ow_box (by first | (simp only [cellsA]; rfl) | rfl) ?_)
        | (refine ow_len rfl ?_)
        | (refine ow_lss_t (by omega) ?_)
        | (refine ow_lss_f (by omega) ?_)
        | (refine ow_leq_t (by omega) ?_)
        | (refine ow_leq_f (by omega) ?_)
        | (refine ow_gtr_t (by omega) ?_)
        | (refine ow_gtr_f (by omega) ?_)
        | (refine ow_geq_t (by omega) ?_)
        | (refine ow_geq_f (by omega) ?_)
        | (refine ow_eql_t (by omega) ?_)
        | (refine ow_eql_f (by omega) ?_)
        | (refine ow_neq_t (by omega) ?_)
        | (refine ow_neq_f (by omega) ?_)
        | (refine ow_add_i rfl (by omega) (by omega) ?_)
        | (refine ow_sub_i rfl (by omega) (by omega) ?_)
        | (refine ow_conv_i (by omega) (by omega) ?_)
        | (refine ow_conv_u (by omega) (by omega) ?_)
        | (refine ow_iaA (by omega) (by omega) rfl ?_)
        | (refine ow_iaS (by omega) (by omega) rfl ?_)
        | (refine ow_ld (by repeat (first | exact upd_same _ _ _ | assumption | refine upd_get (by omega) ?_)) (by first | exact part_all rfl | rfl | (simp only [partA, if_true, List.drop_succ_cons, List.drop_zero, List.take_succ_cons, List.take_zero, List.length_cons, List.length_nil, Nat.reduceAdd, Nat.zero_add]; rfl)) ?_)
        | (refine ow_st (by repeat (first | exact upd_same _ _ _ | assumption | refine upd_get (by omega) ?_)) (by first | (simp only [cellsA]; rfl) | rfl) rfl (by first | (simp; done) | exact Nat.le_refl _) rfl (by first | exact splice_all rfl | (simp only [splice, List.take_succ_cons, List.take_zero, List.drop_succ_cons, List.drop_zero, List.length_cons, List.length_nil, List.cons_append, List.nil_append, Nat.reduceAdd, Nat.zero_add, Nat.add_zero]; rfl)) ?_)
        | (refine ow_build (by simp only [repl, List.append_nil, fillA, List.map, ev, cellsA, splice, List.take_succ_cons, List.take_zero, List.drop_succ_cons, List.drop_zero, List.length_cons, List.length_nil, List.cons_append, List.nil_append, Nat.reduceAdd, Nat.zero_add, Nat.add_zero, true_and, and_self, if_true, Nat.reduceLeDiff, Nat.le_refl]; rfl) ?_)
        | (refine ow_bsl (by simp only [repl, List.append_nil, fillA, List.map, ev, cellsA, splice, List.take_succ_cons, List.take_zero, List.drop_succ_cons, List.drop_zero, List.length_cons, List.length_nil, List.cons_append, List.nil_append, Nat.reduceAdd, Nat.zero_add, Nat.add_zero, true_and, and_self, if_true, Nat.reduceLeDiff, Nat.le_refl]; rfl) ?_)
        | (refine ldR_of (by repeat (first | exact upd_same _ _ _ | assumption | refine upd_get (by omega) ?_)) (by first | exact part_all rfl | rfl | (simp only [partA, if_true, List.drop_succ_cons, List.drop_zero, List.take_succ_cons, List.take_zero, List.length_cons, List.length_nil, Nat.reduceAdd, Nat.zero_add]; rfl)) ?_)
        | (refine dow_ld (by repeat (first | exact upd_same _ _ _ | assumption | refine upd_get (by omega) ?_)) (by first | exact part_all rfl | rfl | (simp only [partA, if_true, List.drop_succ_cons, List.drop_zero, List.take_succ_cons, List.take_zero, List.length_cons, List.length_nil, Nat.reduceAdd, Nat.zero_add]; rfl)) (by simp only [meets, and_true]; (try (repeat' apply And.intro)); all_goals (intro z; simp only [fp_d, fp_f, List.mem_cons, List.not_mem_nil, or_false, false_or, not_false_eq_true, true_and, and_true, Bool.false_eq_true, false_and, not_or]; omega)) ?_)
        | (refine dow_new (by simp only [meets, and_true]; (try (repeat' apply And.intro)); all_goals (intro z; simp only [fp_d, fp_f, List.mem_cons, List.not_mem_nil, or_false, false_or, not_false_eq_true, true_and, and_true, Bool.false_eq_true, false_and, not_or]; omega)) ?_)
        | (refine dow_box (by first | (simp only [cellsA]; rfl) | rfl) (by simp only [meets, and_true]; (try (repeat' apply And.intro)); all_goals (intro z; simp only [fp_d, fp_f, List.mem_cons, List.not_mem_nil, or_false, false_or, not_false_eq_true, true_and, and_true, Bool.false_eq_true, false_and, not_or]; omega)) ?_)
        | (refine dow_st (by repeat (first | exact upd_same _ _ _ | assumption | refine upd_get (by omega) ?_)) (by first | (simp only [cellsA]; rfl) | rfl) rfl (by first | (simp; done) | exact Nat.le_refl _) rfl (by first | exact splice_all rfl | (simp only [splice, List.take_succ_cons, List.take_zero, List.drop_succ_cons, List.drop_zero, List.length_cons, List.length_nil, List.cons_append, List.nil_append, Nat.reduceAdd, Nat.zero_add, Nat.add_zero]; rfl)) (by simp only [meets, and_true]; (try (repeat' apply And.intro)); all_goals (intro z; simp only [fp_d, fp_f, List.mem_cons, List.not_mem_nil, or_false, false_or, not_false_eq_true, true_and, and_true, Bool.false_eq_true, false_and, not_or]; omega)) ?_)
        | (refine dgw_run ?_)
        | (refine dgw_tf ?_)
        | (refine dgw_ft ?_)
        | (refine dgw_un ?_)
        | (refine ow_lss (fun _ => ?_) (fun _ => ?_))
        | (refine ow_leq (fun _ => ?_) (fun _ => ?_))
        | (refine ow_gtr (fun _ => ?_) (fun _ => ?_))
        | (refine ow_geq (fun _ => ?_) (fun _ => ?_))
        | (refine ow_eql (fun _ => ?_) (fun _ => ?_))
        | (refine ow_neq (fun _ => ?_) (fun _ => ?_)))
      exact bad (by simp [deriveS, hj])
    | true =>
      cases hr : mayR rights with
      | false =>
        repeat' (first
          | (refine cal (is_ev (by repeat (first | exact upd_same _ _ _ | assumption | refine upd_get (by omega) ?_)) env src _) ?_)
          | (rw [hi])
          | (refine cal (is_ev (by repeat (first | exact upd_same _ _ _ | assumption | refine upd_get (by omega) ?_)) to dst _) ?_)
          | (rw [hj])
          | (refine cal (may_ev _ _ _) ?_)
          | (rw [hr])
          | (refine cw_t ?_)
          | (refine cw_f ?_)
          | (refine gw_run ?_)
          | (refine gw_tf ?_)
          | (refine gw_ft ?_)
          | (refine gw_un ?_)
          | (refine ow_pick_t ?_)
          | (refine ow_pick_f ?_)
          | (refine ow_new ?_)
          | (refine ow_nck_p ?_)
          | (refine ow_nck_i ?_)
          | (refine ow_nck_f ?_)
          | (refine ow_mki ?_)
          | (refine ow_fa rfl ?_)
          | (refine ow_ext rfl ?_)
          | (refine ow_not rfl ?_)
          | (refine ow_peq_pn rfl ?_)
          | (refine ow_peq_nn rfl ?_)
          | (refine ow_peq_np rfl ?_)
          | (refine ow_ieq_in rfl ?_)
          | (refine ow_ieq_nn rfl ?_)
          | (refine ow_ieq_ni rfl ?_)
          | (refine ow_mkf rfl rfl ?_)
          | (refine ow_box (by first | (simp only [cellsA]; rfl) | rfl) ?_)
          | (refine ow_len rfl ?_)
          | (refine ow_lss_t (by omega) ?_)
          | (refine ow_lss_f (by omega) ?_)
          | (refine ow_leq_t (by omega) ?_)
          | (refine ow_leq_f (by omega) ?_)
          | (refine ow_gtr_t (by omega) ?_)
          | (refine ow_gtr_f (by omega) ?_)
          | (refine ow_geq_t (by omega) ?_)
          | (refine ow_geq_f (by omega) ?_)
          | (refine ow_eql_t (by omega) ?_)
          | (refine ow_eql_f (by omega) ?_)
          | (refine ow_neq_t (by omega) ?_)
          | (refine ow_neq_f (by omega) ?_)
          | (refine ow_add_i rfl (by omega) (by omega) ?_)
          | (refine ow_sub_i rfl (by omega) (by omega) ?_)
          | (refine ow_conv_i (by omega) (by omega) ?_)
          | (refine ow_conv_u (by omega) (by omega) ?_)
          | (refine ow_iaA (by omega) (by omega) rfl ?_)
          | (refine ow_iaS (by omega) (by omega) rfl ?_)
          | (refine ow_ld (by repeat (first | exact upd_same _ _ _ | assumption | refine upd_get (by omega) ?_)) (by first | exact part_all rfl | rfl | (simp only [partA, if_true, List.drop_succ_cons, List.drop_zero, List.take_succ_cons, List.take_zero, List.length_cons, List.length_nil, Nat.reduceAdd, Nat.zero_add]; rfl)) ?_)
          | (refine ow_st (by repeat (first | exact upd_same _ _ _ | assumption | refine upd_get (by omega) ?_)) (by first | (simp only [cellsA]; rfl) | rfl) rfl (by first | (simp; done) | exact Nat.le_refl _) rfl (by first | exact splice_all rfl | (simp only [splice, List.take_succ_cons, List.take_zero, List.drop_succ_cons, List.drop_zero, List.length_cons, List.length_nil, List.cons_append, List.nil_append, Nat.reduceAdd, Nat.zero_add, Nat.add_zero]; rfl)) ?_)
          | (refine ow_build (by simp only [repl, List.append_nil, fillA, List.map, ev, cellsA, splice, List.take_succ_cons, List.take_zero, List.drop_succ_cons, List.drop_zero, List.length_cons, List.length_nil, List.cons_append, List.nil_append, Nat.reduceAdd, Nat.zero_add, Nat.add_zero, true_and, and_self, if_true, Nat.reduceLeDiff, Nat.le_refl]; rfl) ?_)
          | (refine ow_bsl (by simp only [repl, List.append_nil, fillA, List.map, ev, cellsA, splice, List.take_succ_cons, List.take_zero, List.drop_succ_cons, List.drop_zero, List.length_cons, List.length_nil, List.cons_append, List.nil_append, Nat.reduceAdd, Nat.zero_add, Nat.add_zero, true_and, and_self, if_true, Nat.reduceLeDiff, Nat.le_refl]; rfl) ?_)
          | (refine ldR_of (by repeat (first | exact upd_same _ _ _ | assumption | refine upd_get (by omega) ?_)) (by first | exact part_all rfl | rfl | (simp only [partA, if_true, List.drop_succ_cons, List.drop_zero, List.take_succ_cons, List.take_zero, List.length_cons, List.length_nil, Nat.reduceAdd, Nat.zero_add]; rfl)) ?_)
          | (refine dow_ld (by repeat (first | exact upd_same _ _ _ | assumption | refine upd_get (by omega) ?_)) (by first | exact part_all rfl | rfl | (simp only [partA, if_true, List.drop_succ_cons, List.drop_zero, List.take_succ_cons, List.take_zero, List.length_cons, List.length_nil, Nat.reduceAdd, Nat.zero_add]; rfl)) (by simp only [meets, and_true]; (try (repeat' apply And.intro)); all_goals (intro z; simp only [fp_d, fp_f, List.mem_cons, List.not_mem_nil, or_false, false_or, not_false_eq_true, true_and, and_true, Bool.false_eq_true, false_and, not_or]; omega)) ?_)
          | (refine dow_new (by simp only [meets, and_true]; (try (repeat' apply And.intro)); all_goals (intro z; simp only [fp_d, fp_f, List.mem_cons, List.not_mem_nil, or_false, false_or, not_false_eq_true, true_and, and_true, Bool.false_eq_true, false_and, not_or]; omega)) ?_)
          | (refine dow_box (by first | (simp only [cellsA]; rfl) | rfl) (by simp only [meets, and_true]; (try (repeat' apply And.intro)); all_goals (intro z; simp only [fp_d, fp_f, List.mem_cons, List.not_mem_nil, or_false, false_or, not_false_eq_true, true_and, and_true, Bool.false_eq_true, false_and, not_or]; omega)) ?_)
          | (refine dow_st (by repeat (first | exact upd_same _ _ _ | assumption | refine upd_get (by omega) ?_)) (by first | (simp only [cellsA]; rfl) | rfl) rfl (by first | (simp; done) | exact Nat.le_refl _) rfl (by first | exact splice_all rfl | (simp only [splice, List.take_succ_cons, List.take_zero, List.drop_succ_cons, List.drop_zero, List.length_cons, List.length_nil, List.cons_append, List.nil_append, Nat.reduceAdd, Nat.zero_add, Nat.add_zero]; rfl)) (by simp only [meets, and_true]; (try (repeat' apply And.intro)); all_goals (intro z; simp only [fp_d, fp_f, List.mem_cons, List.not_mem_nil, or_false, false_or, not_false_eq_true, true_and, and_true, Bool.false_eq_true, false_and, not_or]; omega)) ?_)
          | (refine dgw_run ?_)
          | (refine dgw_tf ?_)
          | (refine dgw_ft ?_)
          | (refine dgw_un ?_)
          | (refine ow_lss (fun _ => ?_) (fun _ => ?_))
          | (refine ow_leq (fun _ => ?_) (fun _ => ?_))
          | (refine ow_gtr (fun _ => ?_) (fun _ => ?_))
          | (refine ow_geq (fun _ => ?_) (fun _ => ?_))
          | (refine ow_eql (fun _ => ?_) (fun _ => ?_))
          | (refine ow_neq (fun _ => ?_) (fun _ => ?_)))
        exact bad (by simp [deriveS, hr])
      | true =>
        have hq := qi_lt hi
        have hq2 := qi_lt hj
        have hi' := hi
        have hj' := hj
        rw [isC_iff] at hi' hj'
        obtain ⟨i1, i2, i3, i4⟩ := hi'
        obtain ⟨j1, j2, j3, j4⟩ := hj'
        cases hw : withinR rights (L (qi env src)).r with
        | false =>
          repeat' (first
            | (refine cal (is_ev (by repeat (first | exact upd_same _ _ _ | assumption | refine upd_get (by omega) ?_)) env src _) ?_)
            | (rw [hi])
            | (refine cal (is_ev (by repeat (first | exact upd_same _ _ _ | assumption | refine upd_get (by omega) ?_)) to dst _) ?_)
            | (rw [hj])
            | (refine cal (may_ev _ _ _) ?_)
            | (rw [hr])
            | (refine ow_ld (by repeat (first | exact upd_same _ _ _ | assumption | refine upd_get (by omega) ?_)) (cap_row (q := qi env src) (by unfold qi; omega) hq) ?_)
            | (refine ow_ld (by repeat (first | exact upd_same _ _ _ | assumption | refine upd_get (by omega) ?_)) (cap_r (q := qi to dst) (by unfold qi; omega) hq2) ?_)
            | (refine cal (within_ev _ _ _ _) ?_)
            | (rw [hw])
            | (refine cw_t ?_)
            | (refine cw_f ?_)
            | (refine gw_run ?_)
            | (refine gw_tf ?_)
            | (refine gw_ft ?_)
            | (refine gw_un ?_)
            | (refine ow_pick_t ?_)
            | (refine ow_pick_f ?_)
            | (refine ow_new ?_)
            | (refine ow_nck_p ?_)
            | (refine ow_nck_i ?_)
            | (refine ow_nck_f ?_)
            | (refine ow_mki ?_)
            | (refine ow_fa rfl ?_)
            | (refine ow_ext rfl ?_)
            | (refine ow_not rfl ?_)
            | (refine ow_peq_pn rfl ?_)
            | (refine ow_peq_nn rfl ?_)
            | (refine ow_peq_np rfl ?_)
            | (refine ow_ieq_in rfl ?_)
            | (refine ow_ieq_nn rfl ?_)
            | (refine ow_ieq_ni rfl ?_)
            | (refine ow_mkf rfl rfl ?_)
            | (refine ow_box (by first | (simp only [cellsA]; rfl) | rfl) ?_)
            | (refine ow_len rfl ?_)
            | (refine ow_lss_t (by omega) ?_)
            | (refine ow_lss_f (by omega) ?_)
            | (refine ow_leq_t (by omega) ?_)
            | (refine ow_leq_f (by omega) ?_)
            | (refine ow_gtr_t (by omega) ?_)
            | (refine ow_gtr_f (by omega) ?_)
            | (refine ow_geq_t (by omega) ?_)
            | (refine ow_geq_f (by omega) ?_)
            | (refine ow_eql_t (by omega) ?_)
            | (refine ow_eql_f (by omega) ?_)
            | (refine ow_neq_t (by omega) ?_)
            | (refine ow_neq_f (by omega) ?_)
            | (refine ow_add_i rfl (by omega) (by omega) ?_)
            | (refine ow_sub_i rfl (by omega) (by omega) ?_)
            | (refine ow_conv_i (by omega) (by omega) ?_)
            | (refine ow_conv_u (by omega) (by omega) ?_)
            | (refine ow_iaA (by omega) (by omega) rfl ?_)
            | (refine ow_iaS (by omega) (by omega) rfl ?_)
            | (refine ow_ld (by repeat (first | exact upd_same _ _ _ | assumption | refine upd_get (by omega) ?_)) (by first | exact part_all rfl | rfl | (simp only [partA, if_true, List.drop_succ_cons, List.drop_zero, List.take_succ_cons, List.take_zero, List.length_cons, List.length_nil, Nat.reduceAdd, Nat.zero_add]; rfl)) ?_)
            | (refine ow_st (by repeat (first | exact upd_same _ _ _ | assumption | refine upd_get (by omega) ?_)) (by first | (simp only [cellsA]; rfl) | rfl) rfl (by first | (simp; done) | exact Nat.le_refl _) rfl (by first | exact splice_all rfl | (simp only [splice, List.take_succ_cons, List.take_zero, List.drop_succ_cons, List.drop_zero, List.length_cons, List.length_nil, List.cons_append, List.nil_append, Nat.reduceAdd, Nat.zero_add, Nat.add_zero]; rfl)) ?_)
            | (refine ow_build (by simp only [repl, List.append_nil, fillA, List.map, ev, cellsA, splice, List.take_succ_cons, List.take_zero, List.drop_succ_cons, List.drop_zero, List.length_cons, List.length_nil, List.cons_append, List.nil_append, Nat.reduceAdd, Nat.zero_add, Nat.add_zero, true_and, and_self, if_true, Nat.reduceLeDiff, Nat.le_refl]; rfl) ?_)
            | (refine ow_bsl (by simp only [repl, List.append_nil, fillA, List.map, ev, cellsA, splice, List.take_succ_cons, List.take_zero, List.drop_succ_cons, List.drop_zero, List.length_cons, List.length_nil, List.cons_append, List.nil_append, Nat.reduceAdd, Nat.zero_add, Nat.add_zero, true_and, and_self, if_true, Nat.reduceLeDiff, Nat.le_refl]; rfl) ?_)
            | (refine ldR_of (by repeat (first | exact upd_same _ _ _ | assumption | refine upd_get (by omega) ?_)) (by first | exact part_all rfl | rfl | (simp only [partA, if_true, List.drop_succ_cons, List.drop_zero, List.take_succ_cons, List.take_zero, List.length_cons, List.length_nil, Nat.reduceAdd, Nat.zero_add]; rfl)) ?_)
            | (refine dow_ld (by repeat (first | exact upd_same _ _ _ | assumption | refine upd_get (by omega) ?_)) (by first | exact part_all rfl | rfl | (simp only [partA, if_true, List.drop_succ_cons, List.drop_zero, List.take_succ_cons, List.take_zero, List.length_cons, List.length_nil, Nat.reduceAdd, Nat.zero_add]; rfl)) (by simp only [meets, and_true]; (try (repeat' apply And.intro)); all_goals (intro z; simp only [fp_d, fp_f, List.mem_cons, List.not_mem_nil, or_false, false_or, not_false_eq_true, true_and, and_true, Bool.false_eq_true, false_and, not_or]; omega)) ?_)
            | (refine dow_new (by simp only [meets, and_true]; (try (repeat' apply And.intro)); all_goals (intro z; simp only [fp_d, fp_f, List.mem_cons, List.not_mem_nil, or_false, false_or, not_false_eq_true, true_and, and_true, Bool.false_eq_true, false_and, not_or]; omega)) ?_)
            | (refine dow_box (by first | (simp only [cellsA]; rfl) | rfl) (by simp only [meets, and_true]; (try (repeat' apply And.intro)); all_goals (intro z; simp only [fp_d, fp_f, List.mem_cons, List.not_mem_nil, or_false, false_or, not_false_eq_true, true_and, and_true, Bool.false_eq_true, false_and, not_or]; omega)) ?_)
            | (refine dow_st (by repeat (first | exact upd_same _ _ _ | assumption | refine upd_get (by omega) ?_)) (by first | (simp only [cellsA]; rfl) | rfl) rfl (by first | (simp; done) | exact Nat.le_refl _) rfl (by first | exact splice_all rfl | (simp only [splice, List.take_succ_cons, List.take_zero, List.drop_succ_cons, List.drop_zero, List.length_cons, List.length_nil, List.cons_append, List.nil_append, Nat.reduceAdd, Nat.zero_add, Nat.add_zero]; rfl)) (by simp only [meets, and_true]; (try (repeat' apply And.intro)); all_goals (intro z; simp only [fp_d, fp_f, List.mem_cons, List.not_mem_nil, or_false, false_or, not_false_eq_true, true_and, and_true, Bool.false_eq_true, false_and, not_or]; omega)) ?_)
            | (refine dgw_run ?_)
            | (refine dgw_tf ?_)
            | (refine dgw_ft ?_)
            | (refine dgw_un ?_)
            | (refine ow_lss (fun _ => ?_) (fun _ => ?_))
            | (refine ow_leq (fun _ => ?_) (fun _ => ?_))
            | (refine ow_gtr (fun _ => ?_) (fun _ => ?_))
            | (refine ow_geq (fun _ => ?_) (fun _ => ?_))
            | (refine ow_eql (fun _ => ?_) (fun _ => ?_))
            | (refine ow_neq (fun _ => ?_) (fun _ => ?_)))
          · have e : deriveS E L env src to dst rights = (3, L) := by simp [deriveS, *]
            rw [e, T.self]
            exact ⟨rfl, fun x hx => by repeat (first | rfl | refine upd_get (by omega) ?_)⟩
          · have e : deriveS E L env src to dst rights = (4, L) := by simp [deriveS, *]
            rw [e, T.self]
            exact ⟨rfl, fun x hx => by repeat (first | rfl | refine upd_get (by omega) ?_)⟩
          · have e : deriveS E L env src to dst rights = (5, L) := by simp [deriveS, *]
            rw [e, T.self]
            exact ⟨rfl, fun x hx => by repeat (first | rfl | refine upd_get (by omega) ?_)⟩
        | true =>
          repeat' (first
            | (refine cal (is_ev (by repeat (first | exact upd_same _ _ _ | assumption | refine upd_get (by omega) ?_)) env src _) ?_)
            | (rw [hi])
            | (refine cal (is_ev (by repeat (first | exact upd_same _ _ _ | assumption | refine upd_get (by omega) ?_)) to dst _) ?_)
            | (rw [hj])
            | (refine cal (may_ev _ _ _) ?_)
            | (rw [hr])
            | (refine ow_ld (by repeat (first | exact upd_same _ _ _ | assumption | refine upd_get (by omega) ?_)) (cap_row (q := qi env src) (by unfold qi; omega) hq) ?_)
            | (refine ow_ld (by repeat (first | exact upd_same _ _ _ | assumption | refine upd_get (by omega) ?_)) (cap_r (q := qi to dst) (by unfold qi; omega) hq2) ?_)
            | (refine cal (within_ev _ _ _ _) ?_)
            | (rw [hw])
            | (refine dow_st (by repeat (first | exact upd_same _ _ _ | assumption | refine upd_get (by omega) ?_)) (cs' := enc Cap.row (8 * E) (setF L (qi to dst) ⟨(L (qi env src)).f, rights, env, src⟩)) (by first | (simp only [cellsA]; rfl) | rfl) rfl (cap_fit (q := qi to dst) (by unfold qi; omega) hq2) rfl (cap_put (q := qi to dst) (c := ⟨(L (qi env src)).f, rights, env, src⟩) (by unfold qi; omega) hq2) (by simp only [meets, and_true]; (try (repeat' apply And.intro)); all_goals (intro z; simp only [fp_d, fp_f, List.mem_cons, List.not_mem_nil, or_false, false_or, not_false_eq_true, true_and, and_true, Bool.false_eq_true, false_and, not_or]; omega)) ?_)
            | (refine cw_t ?_)
            | (refine cw_f ?_)
            | (refine gw_run ?_)
            | (refine gw_tf ?_)
            | (refine gw_ft ?_)
            | (refine gw_un ?_)
            | (refine ow_pick_t ?_)
            | (refine ow_pick_f ?_)
            | (refine ow_new ?_)
            | (refine ow_nck_p ?_)
            | (refine ow_nck_i ?_)
            | (refine ow_nck_f ?_)
            | (refine ow_mki ?_)
            | (refine ow_fa rfl ?_)
            | (refine ow_ext rfl ?_)
            | (refine ow_not rfl ?_)
            | (refine ow_peq_pn rfl ?_)
            | (refine ow_peq_nn rfl ?_)
            | (refine ow_peq_np rfl ?_)
            | (refine ow_ieq_in rfl ?_)
            | (refine ow_ieq_nn rfl ?_)
            | (refine ow_ieq_ni rfl ?_)
            | (refine ow_mkf rfl rfl ?_)
            | (refine ow_box (by first | (simp only [cellsA]; rfl) | rfl) ?_)
            | (refine ow_len rfl ?_)
            | (refine ow_lss_t (by omega) ?_)
            | (refine ow_lss_f (by omega) ?_)
            | (refine ow_leq_t (by omega) ?_)
            | (refine ow_leq_f (by omega) ?_)
            | (refine ow_gtr_t (by omega) ?_)
            | (refine ow_gtr_f (by omega) ?_)
            | (refine ow_geq_t (by omega) ?_)
            | (refine ow_geq_f (by omega) ?_)
            | (refine ow_eql_t (by omega) ?_)
            | (refine ow_eql_f (by omega) ?_)
            | (refine ow_neq_t (by omega) ?_)
            | (refine ow_neq_f (by omega) ?_)
            | (refine ow_add_i rfl (by omega) (by omega) ?_)
            | (refine ow_sub_i rfl (by omega) (by omega) ?_)
            | (refine ow_conv_i (by omega) (by omega) ?_)
            | (refine ow_conv_u (by omega) (by omega) ?_)
            | (refine ow_iaA (by omega) (by omega) rfl ?_)
            | (refine ow_iaS (by omega) (by omega) rfl ?_)
            | (refine ow_ld (by repeat (first | exact upd_same _ _ _ | assumption | refine upd_get (by omega) ?_)) (by first | exact part_all rfl | rfl | (simp only [partA, if_true, List.drop_succ_cons, List.drop_zero, List.take_succ_cons, List.take_zero, List.length_cons, List.length_nil, Nat.reduceAdd, Nat.zero_add]; rfl)) ?_)
            | (refine ow_st (by repeat (first | exact upd_same _ _ _ | assumption | refine upd_get (by omega) ?_)) (by first | (simp only [cellsA]; rfl) | rfl) rfl (by first | (simp; done) | exact Nat.le_refl _) rfl (by first | exact splice_all rfl | (simp only [splice, List.take_succ_cons, List.take_zero, List.drop_succ_cons, List.drop_zero, List.length_cons, List.length_nil, List.cons_append, List.nil_append, Nat.reduceAdd, Nat.zero_add, Nat.add_zero]; rfl)) ?_)
            | (refine ow_build (by simp only [repl, List.append_nil, fillA, List.map, ev, cellsA, splice, List.take_succ_cons, List.take_zero, List.drop_succ_cons, List.drop_zero, List.length_cons, List.length_nil, List.cons_append, List.nil_append, Nat.reduceAdd, Nat.zero_add, Nat.add_zero, true_and, and_self, if_true, Nat.reduceLeDiff, Nat.le_refl]; rfl) ?_)
            | (refine ow_bsl (by simp only [repl, List.append_nil, fillA, List.map, ev, cellsA, splice, List.take_succ_cons, List.take_zero, List.drop_succ_cons, List.drop_zero, List.length_cons, List.length_nil, List.cons_append, List.nil_append, Nat.reduceAdd, Nat.zero_add, Nat.add_zero, true_and, and_self, if_true, Nat.reduceLeDiff, Nat.le_refl]; rfl) ?_)
            | (refine ldR_of (by repeat (first | exact upd_same _ _ _ | assumption | refine upd_get (by omega) ?_)) (by first | exact part_all rfl | rfl | (simp only [partA, if_true, List.drop_succ_cons, List.drop_zero, List.take_succ_cons, List.take_zero, List.length_cons, List.length_nil, Nat.reduceAdd, Nat.zero_add]; rfl)) ?_)
            | (refine dow_ld (by repeat (first | exact upd_same _ _ _ | assumption | refine upd_get (by omega) ?_)) (by first | exact part_all rfl | rfl | (simp only [partA, if_true, List.drop_succ_cons, List.drop_zero, List.take_succ_cons, List.take_zero, List.length_cons, List.length_nil, Nat.reduceAdd, Nat.zero_add]; rfl)) (by simp only [meets, and_true]; (try (repeat' apply And.intro)); all_goals (intro z; simp only [fp_d, fp_f, List.mem_cons, List.not_mem_nil, or_false, false_or, not_false_eq_true, true_and, and_true, Bool.false_eq_true, false_and, not_or]; omega)) ?_)
            | (refine dow_new (by simp only [meets, and_true]; (try (repeat' apply And.intro)); all_goals (intro z; simp only [fp_d, fp_f, List.mem_cons, List.not_mem_nil, or_false, false_or, not_false_eq_true, true_and, and_true, Bool.false_eq_true, false_and, not_or]; omega)) ?_)
            | (refine dow_box (by first | (simp only [cellsA]; rfl) | rfl) (by simp only [meets, and_true]; (try (repeat' apply And.intro)); all_goals (intro z; simp only [fp_d, fp_f, List.mem_cons, List.not_mem_nil, or_false, false_or, not_false_eq_true, true_and, and_true, Bool.false_eq_true, false_and, not_or]; omega)) ?_)
            | (refine dow_st (by repeat (first | exact upd_same _ _ _ | assumption | refine upd_get (by omega) ?_)) (by first | (simp only [cellsA]; rfl) | rfl) rfl (by first | (simp; done) | exact Nat.le_refl _) rfl (by first | exact splice_all rfl | (simp only [splice, List.take_succ_cons, List.take_zero, List.drop_succ_cons, List.drop_zero, List.length_cons, List.length_nil, List.cons_append, List.nil_append, Nat.reduceAdd, Nat.zero_add, Nat.add_zero]; rfl)) (by simp only [meets, and_true]; (try (repeat' apply And.intro)); all_goals (intro z; simp only [fp_d, fp_f, List.mem_cons, List.not_mem_nil, or_false, false_or, not_false_eq_true, true_and, and_true, Bool.false_eq_true, false_and, not_or]; omega)) ?_)
            | (refine dgw_run ?_)
            | (refine dgw_tf ?_)
            | (refine dgw_ft ?_)
            | (refine dgw_un ?_)
            | (refine ow_lss (fun _ => ?_) (fun _ => ?_))
            | (refine ow_leq (fun _ => ?_) (fun _ => ?_))
            | (refine ow_gtr (fun _ => ?_) (fun _ => ?_))
            | (refine ow_geq (fun _ => ?_) (fun _ => ?_))
            | (refine ow_eql (fun _ => ?_) (fun _ => ?_))
            | (refine ow_neq (fun _ => ?_) (fun _ => ?_)))
          · have e : deriveS E L env src to dst rights = (3, L) := by simp [deriveS, *]
            rw [e, T.self]
            exact ⟨rfl, fun x hx => by repeat (first | rfl | refine upd_get (by omega) ?_)⟩
          · have e : deriveS E L env src to dst rights = (4, L) := by simp [deriveS, *]
            rw [e, T.self]
            exact ⟨rfl, fun x hx => by repeat (first | rfl | refine upd_get (by omega) ?_)⟩
          · have e : deriveS E L env src to dst rights = (0, setF L (qi to dst) ⟨(L (qi env src)).f, rights, env, src⟩) := by simp [deriveS, *]
            rw [e]
            exact ⟨rfl, fun x hx => by have hxn : x ≠ n := by omega
                                       simp [treeH, upd, hxn]⟩
end Go.Proofs.As0
/- Contracts: a tree of capabilities: what came from what. -/
namespace Go.Proofs.As0
open Go Go.Eng
attribute [local irreducible] opW callW cvW invW grdW cndW ldR dopW dcallW dcvW dgrdW loopW

/-- Did a capability come from a place, by at most so many parents? -/
def undN : Nat → (Nat → Cap) → Cap → Int → Int → Bool
  | 0, _, _, _, _ => false
  | k + 1, L, c, pe, ps => decide (c.r ≠ 0) && (decide (0 ≤ c.e) && ((decide (c.e = pe) && decide (c.s = ps)) || undN k L (L (qi c.e c.s)) pe ps))

/-- Each parent lies in the tree, and is older. -/
structure Ranked (E : Nat) (L : Nat → Cap) (ρ : Nat → Nat) : Prop where
  lt : ∀ q, q < 8 * E → ρ q < 32
  par : ∀ q, q < 8 * E → (L q).r ≠ 0 → 0 ≤ (L q).e → isC E (L q).e (L q).s = true ∧ ρ (qi (L q).e (L q).s) < ρ q

theorem undN_more {E : Nat} {L : Nat → Cap} {ρ : Nat → Nat} (R : Ranked E L ρ) (pe ps : Int) : ∀ (k k' q : Nat), q < 8 * E → ρ q < k → ρ q < k' → undN k L (L q) pe ps = undN k' L (L q) pe ps
  | 0, _, _, _, h, _ => by omega
  | _ + 1, 0, _, _, _, h => by omega
  | k + 1, k' + 1, q, hq, h1, h2 => by
    unfold undN
    by_cases hr : (L q).r = 0
    · simp [hr]
    · by_cases he : 0 ≤ (L q).e
      · obtain ⟨p1, p2⟩ := R.par q hq hr he
        rw [undN_more R pe ps k k' _ (qi_lt p1) (by omega) (by omega)]
      · simp [he]

set_option maxRecDepth 20000 in
theorem under_ev {t B E : Nat} {L : Nat → Cap} {ρ : Nat → Nat} {h : Heap} {n : Nat} (g : Good n h) (T : TreeAt h t B E L) (R : Ranked E L ρ) {q : Nat} (hq : q < 8 * E) (pe ps : Int) (m : Nat) :
    FEv Tryz.prog 122 [.ptr t 0, .agg (L q).row, .agg [.int .i64 pe, .int .i64 ps]] h m (.bool (undN 32 L (L q) pe ps)) h m := by
  have ht := T.t
  have hb := T.b
  have l1 := g.lt ht
  have l2 := g.lt hb
  refine fev_same g (by rw [glob4]; omega) (by simp [belowL, below, Cap.row]; exact l1) (by simp [below]) (W122_ok ?_) m
  unfold W122
  repeat (first
    | (refine cw_t ?_)
    | (refine cw_f ?_)
    | (refine gw_run ?_)
    | (refine gw_tf ?_)
    | (refine gw_ft ?_)
    | (refine gw_un ?_)
    | (refine ow_pick_t ?_)
    | (refine ow_pick_f ?_)
    | (refine ow_new ?_)
    | (refine ow_nck_p ?_)
    | (refine ow_nck_i ?_)
    | (refine ow_nck_f ?_)
    | (refine ow_mki ?_)
    | (refine ow_fa rfl ?_)
    | (refine ow_ext rfl ?_)
    | (refine ow_not rfl ?_)
    | (refine ow_peq_pn rfl ?_)
    | (refine ow_peq_nn rfl ?_)
    | (refine ow_peq_np rfl ?_)
    | (refine ow_ieq_in rfl ?_)
    | (refine ow_ieq_nn rfl ?_)
    | (refine ow_ieq_ni rfl ?_)
    | (refine ow_mkf rfl rfl ?_)
    | (refine ow_box (by first | (simp only [cellsA]; rfl) | rfl) ?_)
    | (refine ow_len rfl ?_)
    | (refine ow_lss_t (by omega) ?_)
    | (refine ow_lss_f (by omega) ?_)
    | (refine ow_leq_t (by omega) ?_)
    | (refine ow_leq_f (by omega) ?_)
    | (refine ow_gtr_t (by omega) ?_)
    | (refine ow_gtr_f (by omega) ?_)
    | (refine ow_geq_t (by omega) ?_)
    | (refine ow_geq_f (by omega) ?_)
    | (refine ow_eql_t (by omega) ?_)
    | (refine ow_eql_f (by omega) ?_)
    | (refine ow_neq_t (by omega) ?_)
    | (refine ow_neq_f (by omega) ?_)
    | (refine ow_add_i rfl (by omega) (by omega) ?_)
    | (refine ow_sub_i rfl (by omega) (by omega) ?_)
    | (refine ow_conv_i (by omega) (by omega) ?_)
    | (refine ow_conv_u (by omega) (by omega) ?_)
    | (refine ow_iaA (by omega) (by omega) rfl ?_)
    | (refine ow_iaS (by omega) (by omega) rfl ?_)
    | (refine ow_ld (by repeat (first | exact upd_same _ _ _ | assumption | refine upd_get (by omega) ?_)) (by first | exact part_all rfl | rfl | (simp only [partA, if_true, List.drop_succ_cons, List.drop_zero, List.take_succ_cons, List.take_zero, List.length_cons, List.length_nil, Nat.reduceAdd, Nat.zero_add]; rfl)) ?_)
    | (refine ow_st (by repeat (first | exact upd_same _ _ _ | assumption | refine upd_get (by omega) ?_)) (by first | (simp only [cellsA]; rfl) | rfl) rfl (by first | (simp; done) | exact Nat.le_refl _) rfl (by first | exact splice_all rfl | (simp only [splice, List.take_succ_cons, List.take_zero, List.drop_succ_cons, List.drop_zero, List.length_cons, List.length_nil, List.cons_append, List.nil_append, Nat.reduceAdd, Nat.zero_add, Nat.add_zero]; rfl)) ?_)
    | (refine ow_build (by simp only [repl, List.append_nil, fillA, List.map, ev, cellsA, splice, List.take_succ_cons, List.take_zero, List.drop_succ_cons, List.drop_zero, List.length_cons, List.length_nil, List.cons_append, List.nil_append, Nat.reduceAdd, Nat.zero_add, Nat.add_zero, true_and, and_self, if_true, Nat.reduceLeDiff, Nat.le_refl]; rfl) ?_)
    | (refine ow_bsl (by simp only [repl, List.append_nil, fillA, List.map, ev, cellsA, splice, List.take_succ_cons, List.take_zero, List.drop_succ_cons, List.drop_zero, List.length_cons, List.length_nil, List.cons_append, List.nil_append, Nat.reduceAdd, Nat.zero_add, Nat.add_zero, true_and, and_self, if_true, Nat.reduceLeDiff, Nat.le_refl]; rfl) ?_)
    | (refine ldR_of (by repeat (first | exact upd_same _ _ _ | assumption | refine upd_get (by omega) ?_)) (by first | exact part_all rfl | rfl | (simp only [partA, if_true, List.drop_succ_cons, List.drop_zero, List.take_succ_cons, List.take_zero, List.length_cons, List.length_nil, Nat.reduceAdd, Nat.zero_add]; rfl)) ?_)
    | (refine dow_ld (by repeat (first | exact upd_same _ _ _ | assumption | refine upd_get (by omega) ?_)) (by first | exact part_all rfl | rfl | (simp only [partA, if_true, List.drop_succ_cons, List.drop_zero, List.take_succ_cons, List.take_zero, List.length_cons, List.length_nil, Nat.reduceAdd, Nat.zero_add]; rfl)) (by simp only [meets, and_true]; (try (repeat' apply And.intro)); all_goals (intro z; simp only [fp_d, fp_f, List.mem_cons, List.not_mem_nil, or_false, false_or, not_false_eq_true, true_and, and_true, Bool.false_eq_true, false_and, not_or]; omega)) ?_)
    | (refine dow_new (by simp only [meets, and_true]; (try (repeat' apply And.intro)); all_goals (intro z; simp only [fp_d, fp_f, List.mem_cons, List.not_mem_nil, or_false, false_or, not_false_eq_true, true_and, and_true, Bool.false_eq_true, false_and, not_or]; omega)) ?_)
    | (refine dow_box (by first | (simp only [cellsA]; rfl) | rfl) (by simp only [meets, and_true]; (try (repeat' apply And.intro)); all_goals (intro z; simp only [fp_d, fp_f, List.mem_cons, List.not_mem_nil, or_false, false_or, not_false_eq_true, true_and, and_true, Bool.false_eq_true, false_and, not_or]; omega)) ?_)
    | (refine dow_st (by repeat (first | exact upd_same _ _ _ | assumption | refine upd_get (by omega) ?_)) (by first | (simp only [cellsA]; rfl) | rfl) rfl (by first | (simp; done) | exact Nat.le_refl _) rfl (by first | exact splice_all rfl | (simp only [splice, List.take_succ_cons, List.take_zero, List.drop_succ_cons, List.drop_zero, List.length_cons, List.length_nil, List.cons_append, List.nil_append, Nat.reduceAdd, Nat.zero_add, Nat.add_zero]; rfl)) (by simp only [meets, and_true]; (try (repeat' apply And.intro)); all_goals (intro z; simp only [fp_d, fp_f, List.mem_cons, List.not_mem_nil, or_false, false_or, not_false_eq_true, true_and, and_true, Bool.false_eq_true, false_and, not_or]; omega)) ?_)
    | (refine dgw_run ?_)
    | (refine dgw_tf ?_)
    | (refine dgw_ft ?_)
    | (refine dgw_un ?_))
  refine loopW_inv mixed (fun d a h1 n1 => ∃ g q', a = tl 38 g ∧ g 0 = .ptr t 0 ∧ g 4 = .ptr n 0 ∧ g 5 = .ptr (n + 1) 0 ∧ q' < 8 * E ∧
    h1 = upd (upd h n (some (.cells 0 (L q').row))) (n + 1) (some (.cells 0 [.int .i64 pe, .int .i64 ps])) ∧ n1 = n + 1 + 1 ∧ ρ q' = d ∧ undN (d + 1) L (L q') pe ps = undN 32 L (L q) pe ps) (d := ρ q) ?_
    ⟨_, q, rfl, rfl, rfl, rfl, hq, rfl, rfl, rfl, undN_more R pe ps _ _ q hq (by omega) (R.lt q hq)⟩
  intro d a h1 n1 hI
  obtain ⟨g', q', ha, g0, g4, g5, hq', hh1, hn1, hd, hu⟩ := hI
  subst ha hh1 hn1 hd
  rw [B122_0_eq]
  unfold B122_0
  rw [g0, g4, g5]
  by_cases hr : (L q').r = 0
  · repeat (first
      | (refine cw_t ?_)
      | (refine cw_f ?_)
      | (refine gw_run ?_)
      | (refine gw_tf ?_)
      | (refine gw_ft ?_)
      | (refine gw_un ?_)
      | (refine ow_pick_t ?_)
      | (refine ow_pick_f ?_)
      | (refine ow_new ?_)
      | (refine ow_nck_p ?_)
      | (refine ow_nck_i ?_)
      | (refine ow_nck_f ?_)
      | (refine ow_mki ?_)
      | (refine ow_fa rfl ?_)
      | (refine ow_ext rfl ?_)
      | (refine ow_not rfl ?_)
      | (refine ow_peq_pn rfl ?_)
      | (refine ow_peq_nn rfl ?_)
      | (refine ow_peq_np rfl ?_)
      | (refine ow_ieq_in rfl ?_)
      | (refine ow_ieq_nn rfl ?_)
      | (refine ow_ieq_ni rfl ?_)
      | (refine ow_mkf rfl rfl ?_)
      | (refine ow_box (by first | (simp only [cellsA]; rfl) | rfl) ?_)
      | (refine ow_len rfl ?_)
      | (refine ow_lss_t (by omega) ?_)
      | (refine ow_lss_f (by omega) ?_)
      | (refine ow_leq_t (by omega) ?_)
      | (refine ow_leq_f (by omega) ?_)
      | (refine ow_gtr_t (by omega) ?_)
      | (refine ow_gtr_f (by omega) ?_)
      | (refine ow_geq_t (by omega) ?_)
      | (refine ow_geq_f (by omega) ?_)
      | (refine ow_eql_t (by omega) ?_)
      | (refine ow_eql_f (by omega) ?_)
      | (refine ow_neq_t (by omega) ?_)
      | (refine ow_neq_f (by omega) ?_)
      | (refine ow_add_i rfl (by omega) (by omega) ?_)
      | (refine ow_sub_i rfl (by omega) (by omega) ?_)
      | (refine ow_conv_i (by omega) (by omega) ?_)
      | (refine ow_conv_u (by omega) (by omega) ?_)
      | (refine ow_iaA (by omega) (by omega) rfl ?_)
      | (refine ow_iaS (by omega) (by omega) rfl ?_)
      | (refine ow_ld (by repeat (first | exact upd_same _ _ _ | assumption | refine upd_get (by omega) ?_)) (by first | exact part_all rfl | rfl | (simp only [partA, if_true, List.drop_succ_cons, List.drop_zero, List.take_succ_cons, List.take_zero, List.length_cons, List.length_nil, Nat.reduceAdd, Nat.zero_add]; rfl)) ?_)
      | (refine ow_st (by repeat (first | exact upd_same _ _ _ | assumption | refine upd_get (by omega) ?_)) (by first | (simp only [cellsA]; rfl) | rfl) rfl (by first | (simp; done) | exact Nat.le_refl _) rfl (by first | exact splice_all rfl | (simp only [splice, List.take_succ_cons, List.take_zero, List.drop_succ_cons, List.drop_zero, List.length_cons, List.length_nil, List.cons_append, List.nil_append, Nat.reduceAdd, Nat.zero_add, Nat.add_zero]; rfl)) ?_)
      | (refine ow_build (by simp only [repl, List.append_nil, fillA, List.map, ev, cellsA, splice, List.take_succ_cons, List.take_zero, List.drop_succ_cons, List.drop_zero, List.length_cons, List.length_nil, List.cons_append, List.nil_append, Nat.reduceAdd, Nat.zero_add, Nat.add_zero, true_and, and_self, if_true, Nat.reduceLeDiff, Nat.le_refl]; rfl) ?_)
      | (refine ow_bsl (by simp only [repl, List.append_nil, fillA, List.map, ev, cellsA, splice, List.take_succ_cons, List.take_zero, List.drop_succ_cons, List.drop_zero, List.length_cons, List.length_nil, List.cons_append, List.nil_append, Nat.reduceAdd, Nat.zero_add, Nat.add_zero, true_and, and_self, if_true, Nat.reduceLeDiff, Nat.le_refl]; rfl) ?_)
      | (refine ldR_of (by repeat (first | exact upd_same _ _ _ | assumption | refine upd_get (by omega) ?_)) (by first | exact part_all rfl | rfl | (simp only [partA, if_true, List.drop_succ_cons, List.drop_zero, List.take_succ_cons, List.take_zero, List.length_cons, List.length_nil, Nat.reduceAdd, Nat.zero_add]; rfl)) ?_)
      | (refine dow_ld (by repeat (first | exact upd_same _ _ _ | assumption | refine upd_get (by omega) ?_)) (by first | exact part_all rfl | rfl | (simp only [partA, if_true, List.drop_succ_cons, List.drop_zero, List.take_succ_cons, List.take_zero, List.length_cons, List.length_nil, Nat.reduceAdd, Nat.zero_add]; rfl)) (by simp only [meets, and_true]; (try (repeat' apply And.intro)); all_goals (intro z; simp only [fp_d, fp_f, List.mem_cons, List.not_mem_nil, or_false, false_or, not_false_eq_true, true_and, and_true, Bool.false_eq_true, false_and, not_or]; omega)) ?_)
      | (refine dow_new (by simp only [meets, and_true]; (try (repeat' apply And.intro)); all_goals (intro z; simp only [fp_d, fp_f, List.mem_cons, List.not_mem_nil, or_false, false_or, not_false_eq_true, true_and, and_true, Bool.false_eq_true, false_and, not_or]; omega)) ?_)
      | (refine dow_box (by first | (simp only [cellsA]; rfl) | rfl) (by simp only [meets, and_true]; (try (repeat' apply And.intro)); all_goals (intro z; simp only [fp_d, fp_f, List.mem_cons, List.not_mem_nil, or_false, false_or, not_false_eq_true, true_and, and_true, Bool.false_eq_true, false_and, not_or]; omega)) ?_)
      | (refine dow_st (by repeat (first | exact upd_same _ _ _ | assumption | refine upd_get (by omega) ?_)) (by first | (simp only [cellsA]; rfl) | rfl) rfl (by first | (simp; done) | exact Nat.le_refl _) rfl (by first | exact splice_all rfl | (simp only [splice, List.take_succ_cons, List.take_zero, List.drop_succ_cons, List.drop_zero, List.length_cons, List.length_nil, List.cons_append, List.nil_append, Nat.reduceAdd, Nat.zero_add, Nat.add_zero]; rfl)) (by simp only [meets, and_true]; (try (repeat' apply And.intro)); all_goals (intro z; simp only [fp_d, fp_f, List.mem_cons, List.not_mem_nil, or_false, false_or, not_false_eq_true, true_and, and_true, Bool.false_eq_true, false_and, not_or]; omega)) ?_)
      | (refine dgw_run ?_)
      | (refine dgw_tf ?_)
      | (refine dgw_ft ?_)
      | (refine dgw_un ?_))
    rw [loopK_exit, X122_0_0_eq]
    refine ⟨?_, fun x hx => by repeat (first | rfl | refine upd_get (by omega) ?_)⟩
    rw [← hu]; simp [undN, hr]
  · by_cases he : 0 ≤ (L q').e
    · obtain ⟨p1, p2⟩ := R.par q' hq' hr he
      have hq2 := qi_lt p1
      have p3 := p1
      rw [isC_iff] at p3
      obtain ⟨i1, i2, i3, i4⟩ := p3
      by_cases h5 : (L q').e = pe ∧ (L q').s = ps
      · obtain ⟨h5, h6⟩ := h5
        repeat (first
          | (refine cw_t ?_)
          | (refine cw_f ?_)
          | (refine gw_run ?_)
          | (refine gw_tf ?_)
          | (refine gw_ft ?_)
          | (refine gw_un ?_)
          | (refine ow_pick_t ?_)
          | (refine ow_pick_f ?_)
          | (refine ow_new ?_)
          | (refine ow_nck_p ?_)
          | (refine ow_nck_i ?_)
          | (refine ow_nck_f ?_)
          | (refine ow_mki ?_)
          | (refine ow_fa rfl ?_)
          | (refine ow_ext rfl ?_)
          | (refine ow_not rfl ?_)
          | (refine ow_peq_pn rfl ?_)
          | (refine ow_peq_nn rfl ?_)
          | (refine ow_peq_np rfl ?_)
          | (refine ow_ieq_in rfl ?_)
          | (refine ow_ieq_nn rfl ?_)
          | (refine ow_ieq_ni rfl ?_)
          | (refine ow_mkf rfl rfl ?_)
          | (refine ow_box (by first | (simp only [cellsA]; rfl) | rfl) ?_)
          | (refine ow_len rfl ?_)
          | (refine ow_lss_t (by omega) ?_)
          | (refine ow_lss_f (by omega) ?_)
          | (refine ow_leq_t (by omega) ?_)
          | (refine ow_leq_f (by omega) ?_)
          | (refine ow_gtr_t (by omega) ?_)
          | (refine ow_gtr_f (by omega) ?_)
          | (refine ow_geq_t (by omega) ?_)
          | (refine ow_geq_f (by omega) ?_)
          | (refine ow_eql_t (by omega) ?_)
          | (refine ow_eql_f (by omega) ?_)
          | (refine ow_neq_t (by omega) ?_)
          | (refine ow_neq_f (by omega) ?_)
          | (refine ow_add_i rfl (by omega) (by omega) ?_)
          | (refine ow_sub_i rfl (by omega) (by omega) ?_)
          | (refine ow_conv_i (by omega) (by omega) ?_)
          | (refine ow_conv_u (by omega) (by omega) ?_)
          | (refine ow_iaA (by omega) (by omega) rfl ?_)
          | (refine ow_iaS (by omega) (by omega) rfl ?_)
          | (refine ow_ld (by repeat (first | exact upd_same _ _ _ | assumption | refine upd_get (by omega) ?_)) (by first | exact part_all rfl | rfl | (simp only [partA, if_true, List.drop_succ_cons, List.drop_zero, List.take_succ_cons, List.take_zero, List.length_cons, List.length_nil, Nat.reduceAdd, Nat.zero_add]; rfl)) ?_)
          | (refine ow_st (by repeat (first | exact upd_same _ _ _ | assumption | refine upd_get (by omega) ?_)) (by first | (simp only [cellsA]; rfl) | rfl) rfl (by first | (simp; done) | exact Nat.le_refl _) rfl (by first | exact splice_all rfl | (simp only [splice, List.take_succ_cons, List.take_zero, List.drop_succ_cons, List.drop_zero, List.length_cons, List.length_nil, List.cons_append, List.nil_append, Nat.reduceAdd, Nat.zero_add, Nat.add_zero]; rfl)) ?_)
          | (refine ow_build (by simp only [repl, List.append_nil, fillA, List.map, ev, cellsA, splice, List.take_succ_cons, List.take_zero, List.drop_succ_cons, List.drop_zero, List.length_cons, List.length_nil, List.cons_append, List.nil_append, Nat.reduceAdd, Nat.zero_add, Nat.add_zero, true_and, and_self, if_true, Nat.reduceLeDiff, Nat.le_refl]; rfl) ?_)
          | (refine ow_bsl (by simp only [repl, List.append_nil, fillA, List.map, ev, cellsA, splice, List.take_succ_cons, List.take_zero, List.drop_succ_cons, List.drop_zero, List.length_cons, List.length_nil, List.cons_append, List.nil_append, Nat.reduceAdd, Nat.zero_add, Nat.add_zero, true_and, and_self, if_true, Nat.reduceLeDiff, Nat.le_refl]; rfl) ?_)
          | (refine ldR_of (by repeat (first | exact upd_same _ _ _ | assumption | refine upd_get (by omega) ?_)) (by first | exact part_all rfl | rfl | (simp only [partA, if_true, List.drop_succ_cons, List.drop_zero, List.take_succ_cons, List.take_zero, List.length_cons, List.length_nil, Nat.reduceAdd, Nat.zero_add]; rfl)) ?_)
          | (refine dow_ld (by repeat (first | exact upd_same _ _ _ | assumption | refine upd_get (by omega) ?_)) (by first | exact part_all rfl | rfl | (simp only [partA, if_true, List.drop_succ_cons, List.drop_zero, List.take_succ_cons, List.take_zero, List.length_cons, List.length_nil, Nat.reduceAdd, Nat.zero_add]; rfl)) (by simp only [meets, and_true]; (try (repeat' apply And.intro)); all_goals (intro z; simp only [fp_d, fp_f, List.mem_cons, List.not_mem_nil, or_false, false_or, not_false_eq_true, true_and, and_true, Bool.false_eq_true, false_and, not_or]; omega)) ?_)
          | (refine dow_new (by simp only [meets, and_true]; (try (repeat' apply And.intro)); all_goals (intro z; simp only [fp_d, fp_f, List.mem_cons, List.not_mem_nil, or_false, false_or, not_false_eq_true, true_and, and_true, Bool.false_eq_true, false_and, not_or]; omega)) ?_)
          | (refine dow_box (by first | (simp only [cellsA]; rfl) | rfl) (by simp only [meets, and_true]; (try (repeat' apply And.intro)); all_goals (intro z; simp only [fp_d, fp_f, List.mem_cons, List.not_mem_nil, or_false, false_or, not_false_eq_true, true_and, and_true, Bool.false_eq_true, false_and, not_or]; omega)) ?_)
          | (refine dow_st (by repeat (first | exact upd_same _ _ _ | assumption | refine upd_get (by omega) ?_)) (by first | (simp only [cellsA]; rfl) | rfl) rfl (by first | (simp; done) | exact Nat.le_refl _) rfl (by first | exact splice_all rfl | (simp only [splice, List.take_succ_cons, List.take_zero, List.drop_succ_cons, List.drop_zero, List.length_cons, List.length_nil, List.cons_append, List.nil_append, Nat.reduceAdd, Nat.zero_add, Nat.add_zero]; rfl)) (by simp only [meets, and_true]; (try (repeat' apply And.intro)); all_goals (intro z; simp only [fp_d, fp_f, List.mem_cons, List.not_mem_nil, or_false, false_or, not_false_eq_true, true_and, and_true, Bool.false_eq_true, false_and, not_or]; omega)) ?_)
          | (refine dgw_run ?_)
          | (refine dgw_tf ?_)
          | (refine dgw_ft ?_)
          | (refine dgw_un ?_))
        rw [loopK_ret, X122_0_ret_eq]
        refine ⟨?_, fun x hx => by repeat (first | rfl | refine upd_get (by omega) ?_)⟩
        have he' : 0 ≤ pe := h5 ▸ he
        rw [← hu]; simp [undN, hr, he', h5, h6]; rfl
      · have next : ∀ h2, h2 = upd (upd h n (some (.cells 0 (L (qi (L q').e (L q').s)).row))) (n + 1) (some (.cells 0 [.int .i64 pe, .int .i64 ps])) → ∀ l, ug g' l 0 = .ptr t 0 → ug g' l 4 = .ptr n 0 → ug g' l 5 = .ptr (n + 1) 0 →
            ∃ d', d' < ρ q' ∧ ∃ g q'', tl 38 (ug g' l) = tl 38 g ∧ g 0 = .ptr t 0 ∧ g 4 = .ptr n 0 ∧ g 5 = .ptr (n + 1) 0 ∧ q'' < 8 * E ∧
              h2 = upd (upd h n (some (.cells 0 (L q'').row))) (n + 1) (some (.cells 0 [.int .i64 pe, .int .i64 ps])) ∧ n + 1 + 1 = n + 1 + 1 ∧ ρ q'' = d' ∧ undN (d' + 1) L (L q'') pe ps = undN 32 L (L q) pe ps := by
          intro h2 hh l e0 e4 e5
          refine ⟨_, p2, _, _, rfl, e0, e4, e5, hq2, hh, rfl, rfl, ?_⟩
          rw [← hu, undN_more R pe ps _ (ρ q') _ hq2 (by omega) p2]
          conv => rhs; unfold undN
          have : (decide ((L q').e = pe) && decide ((L q').s = ps)) = false := by simpa using h5
          simp [hr, he, this]
        have fin : upd (upd (upd h n (some (.cells 0 (L q').row))) (n + 1) (some (.cells 0 [.int .i64 pe, .int .i64 ps]))) n (some (.cells 0 (L (qi (L q').e (L q').s)).row)) =
            upd (upd h n (some (.cells 0 (L (qi (L q').e (L q').s)).row))) (n + 1) (some (.cells 0 [.int .i64 pe, .int .i64 ps])) := by
          funext x
          simp only [upd]
          by_cases h1 : x = n
          · simp [h1]
          · simp [h1]
        by_cases h6 : (L q').e = pe
        · have h7 : (L q').s ≠ ps := fun e => h5 ⟨h6, e⟩
          repeat (first
            | (refine dow_ld (by repeat (first | exact upd_same _ _ _ | assumption | refine upd_get (by omega) ?_)) (cap_row (q := qi (L q').e (L q').s) (by unfold qi; omega) hq2) (by simp only [meets, and_true]; (try (repeat' apply And.intro)); all_goals (intro z; simp only [fp_d, fp_f, List.mem_cons, List.not_mem_nil, or_false, false_or, not_false_eq_true, true_and, and_true, Bool.false_eq_true, false_and, not_or]; omega)) ?_)
            | (refine cw_t ?_)
            | (refine cw_f ?_)
            | (refine gw_run ?_)
            | (refine gw_tf ?_)
            | (refine gw_ft ?_)
            | (refine gw_un ?_)
            | (refine ow_pick_t ?_)
            | (refine ow_pick_f ?_)
            | (refine ow_new ?_)
            | (refine ow_nck_p ?_)
            | (refine ow_nck_i ?_)
            | (refine ow_nck_f ?_)
            | (refine ow_mki ?_)
            | (refine ow_fa rfl ?_)
            | (refine ow_ext rfl ?_)
            | (refine ow_not rfl ?_)
            | (refine ow_peq_pn rfl ?_)
            | (refine ow_peq_nn rfl ?_)
            | (refine ow_peq_np rfl ?_)
            | (refine ow_ieq_in rfl ?_)
            | (refine ow_ieq_nn rfl ?_)
            | (refine ow_ieq_ni rfl ?_)
            | (refine ow_mkf rfl rfl ?_)
            | (refine ow_box (by first | (simp only [cellsA]; rfl) | rfl) ?_)
            | (refine ow_len rfl ?_)
            | (refine ow_lss_t (by omega) ?_)
            | (refine ow_lss_f (by omega) ?_)
            | (refine ow_leq_t (by omega) ?_)
            | (refine ow_leq_f (by omega) ?_)
            | (refine ow_gtr_t (by omega) ?_)
            | (refine ow_gtr_f (by omega) ?_)
            | (refine ow_geq_t (by omega) ?_)
            | (refine ow_geq_f (by omega) ?_)
            | (refine ow_eql_t (by omega) ?_)
            | (refine ow_eql_f (by omega) ?_)
            | (refine ow_neq_t (by omega) ?_)
            | (refine ow_neq_f (by omega) ?_)
            | (refine ow_add_i rfl (by omega) (by omega) ?_)
            | (refine ow_sub_i rfl (by omega) (by omega) ?_)
            | (refine ow_conv_i (by omega) (by omega) ?_)
            | (refine ow_conv_u (by omega) (by omega) ?_)
            | (refine ow_iaA (by omega) (by omega) rfl ?_)
            | (refine ow_iaS (by omega) (by omega) rfl ?_)
            | (refine ow_ld (by repeat (first | exact upd_same _ _ _ | assumption | refine upd_get (by omega) ?_)) (by first | exact part_all rfl | rfl | (simp only [partA, if_true, List.drop_succ_cons, List.drop_zero, List.take_succ_cons, List.take_zero, List.length_cons, List.length_nil, Nat.reduceAdd, Nat.zero_add]; rfl)) ?_)
            | (refine ow_st (by repeat (first | exact upd_same _ _ _ | assumption | refine upd_get (by omega) ?_)) (by first | (simp only [cellsA]; rfl) | rfl) rfl (by first | (simp; done) | exact Nat.le_refl _) rfl (by first | exact splice_all rfl | (simp only [splice, List.take_succ_cons, List.take_zero, List.drop_succ_cons, List.drop_zero, List.length_cons, List.length_nil, List.cons_append, List.nil_append, Nat.reduceAdd, Nat.zero_add, Nat.add_zero]; rfl)) ?_)
            | (refine ow_build (by simp only [repl, List.append_nil, fillA, List.map, ev, cellsA, splice, List.take_succ_cons, List.take_zero, List.drop_succ_cons, List.drop_zero, List.length_cons, List.length_nil, List.cons_append, List.nil_append, Nat.reduceAdd, Nat.zero_add, Nat.add_zero, true_and, and_self, if_true, Nat.reduceLeDiff, Nat.le_refl]; rfl) ?_)
            | (refine ow_bsl (by simp only [repl, List.append_nil, fillA, List.map, ev, cellsA, splice, List.take_succ_cons, List.take_zero, List.drop_succ_cons, List.drop_zero, List.length_cons, List.length_nil, List.cons_append, List.nil_append, Nat.reduceAdd, Nat.zero_add, Nat.add_zero, true_and, and_self, if_true, Nat.reduceLeDiff, Nat.le_refl]; rfl) ?_)
            | (refine ldR_of (by repeat (first | exact upd_same _ _ _ | assumption | refine upd_get (by omega) ?_)) (by first | exact part_all rfl | rfl | (simp only [partA, if_true, List.drop_succ_cons, List.drop_zero, List.take_succ_cons, List.take_zero, List.length_cons, List.length_nil, Nat.reduceAdd, Nat.zero_add]; rfl)) ?_)
            | (refine dow_ld (by repeat (first | exact upd_same _ _ _ | assumption | refine upd_get (by omega) ?_)) (by first | exact part_all rfl | rfl | (simp only [partA, if_true, List.drop_succ_cons, List.drop_zero, List.take_succ_cons, List.take_zero, List.length_cons, List.length_nil, Nat.reduceAdd, Nat.zero_add]; rfl)) (by simp only [meets, and_true]; (try (repeat' apply And.intro)); all_goals (intro z; simp only [fp_d, fp_f, List.mem_cons, List.not_mem_nil, or_false, false_or, not_false_eq_true, true_and, and_true, Bool.false_eq_true, false_and, not_or]; omega)) ?_)
            | (refine dow_new (by simp only [meets, and_true]; (try (repeat' apply And.intro)); all_goals (intro z; simp only [fp_d, fp_f, List.mem_cons, List.not_mem_nil, or_false, false_or, not_false_eq_true, true_and, and_true, Bool.false_eq_true, false_and, not_or]; omega)) ?_)
            | (refine dow_box (by first | (simp only [cellsA]; rfl) | rfl) (by simp only [meets, and_true]; (try (repeat' apply And.intro)); all_goals (intro z; simp only [fp_d, fp_f, List.mem_cons, List.not_mem_nil, or_false, false_or, not_false_eq_true, true_and, and_true, Bool.false_eq_true, false_and, not_or]; omega)) ?_)
            | (refine dow_st (by repeat (first | exact upd_same _ _ _ | assumption | refine upd_get (by omega) ?_)) (by first | (simp only [cellsA]; rfl) | rfl) rfl (by first | (simp; done) | exact Nat.le_refl _) rfl (by first | exact splice_all rfl | (simp only [splice, List.take_succ_cons, List.take_zero, List.drop_succ_cons, List.drop_zero, List.length_cons, List.length_nil, List.cons_append, List.nil_append, Nat.reduceAdd, Nat.zero_add, Nat.add_zero]; rfl)) (by simp only [meets, and_true]; (try (repeat' apply And.intro)); all_goals (intro z; simp only [fp_d, fp_f, List.mem_cons, List.not_mem_nil, or_false, false_or, not_false_eq_true, true_and, and_true, Bool.false_eq_true, false_and, not_or]; omega)) ?_)
            | (refine dgw_run ?_)
            | (refine dgw_tf ?_)
            | (refine dgw_ft ?_)
            | (refine dgw_un ?_))
          exact next _ fin _ g0 g4 g5
        · repeat (first
            | (refine dow_ld (by repeat (first | exact upd_same _ _ _ | assumption | refine upd_get (by omega) ?_)) (cap_row (q := qi (L q').e (L q').s) (by unfold qi; omega) hq2) (by simp only [meets, and_true]; (try (repeat' apply And.intro)); all_goals (intro z; simp only [fp_d, fp_f, List.mem_cons, List.not_mem_nil, or_false, false_or, not_false_eq_true, true_and, and_true, Bool.false_eq_true, false_and, not_or]; omega)) ?_)
            | (refine cw_t ?_)
            | (refine cw_f ?_)
            | (refine gw_run ?_)
            | (refine gw_tf ?_)
            | (refine gw_ft ?_)
            | (refine gw_un ?_)
            | (refine ow_pick_t ?_)
            | (refine ow_pick_f ?_)
            | (refine ow_new ?_)
            | (refine ow_nck_p ?_)
            | (refine ow_nck_i ?_)
            | (refine ow_nck_f ?_)
            | (refine ow_mki ?_)
            | (refine ow_fa rfl ?_)
            | (refine ow_ext rfl ?_)
            | (refine ow_not rfl ?_)
            | (refine ow_peq_pn rfl ?_)
            | (refine ow_peq_nn rfl ?_)
            | (refine ow_peq_np rfl ?_)
            | (refine ow_ieq_in rfl ?_)
            | (refine ow_ieq_nn rfl ?_)
            | (refine ow_ieq_ni rfl ?_)
            | (refine ow_mkf rfl rfl ?_)
            | (refine ow_box (by first | (simp only [cellsA]; rfl) | rfl) ?_)
            | (refine ow_len rfl ?_)
            | (refine ow_lss_t (by omega) ?_)
            | (refine ow_lss_f (by omega) ?_)
            | (refine ow_leq_t (by omega) ?_)
            | (refine ow_leq_f (by omega) ?_)
            | (refine ow_gtr_t (by omega) ?_)
            | (refine ow_gtr_f (by omega) ?_)
            | (refine ow_geq_t (by omega) ?_)
            | (refine ow_geq_f (by omega) ?_)
            | (refine ow_eql_t (by omega) ?_)
            | (refine ow_eql_f (by omega) ?_)
            | (refine ow_neq_t (by omega) ?_)
            | (refine ow_neq_f (by omega) ?_)
            | (refine ow_add_i rfl (by omega) (by omega) ?_)
            | (refine ow_sub_i rfl (by omega) (by omega) ?_)
            | (refine ow_conv_i (by omega) (by omega) ?_)
            | (refine ow_conv_u (by omega) (by omega) ?_)
            | (refine ow_iaA (by omega) (by omega) rfl ?_)
            | (refine ow_iaS (by omega) (by omega) rfl ?_)
            | (refine ow_ld (by repeat (first | exact upd_same _ _ _ | assumption | refine upd_get (by omega) ?_)) (by first | exact part_all rfl | rfl | (simp only [partA, if_true, List.drop_succ_cons, List.drop_zero, List.take_succ_cons, List.take_zero, List.length_cons, List.length_nil, Nat.reduceAdd, Nat.zero_add]; rfl)) ?_)
            | (refine ow_st (by repeat (first | exact upd_same _ _ _ | assumption | refine upd_get (by omega) ?_)) (by first | (simp only [cellsA]; rfl) | rfl) rfl (by first | (simp; done) | exact Nat.le_refl _) rfl (by first | exact splice_all rfl | (simp only [splice, List.take_succ_cons, List.take_zero, List.drop_succ_cons, List.drop_zero, List.length_cons, List.length_nil, List.cons_append, List.nil_append, Nat.reduceAdd, Nat.zero_add, Nat.add_zero]; rfl)) ?_)
            | (refine ow_build (by simp only [repl, List.append_nil, fillA, List.map, ev, cellsA, splice, List.take_succ_cons, List.take_zero, List.drop_succ_cons, List.drop_zero, List.length_cons, List.length_nil, List.cons_append, List.nil_append, Nat.reduceAdd, Nat.zero_add, Nat.add_zero, true_and, and_self, if_true, Nat.reduceLeDiff, Nat.le_refl]; rfl) ?_)
            | (refine ow_bsl (by simp only [repl, List.append_nil, fillA, List.map, ev, cellsA, splice, List.take_succ_cons, List.take_zero, List.drop_succ_cons, List.drop_zero, List.length_cons, List.length_nil, List.cons_append, List.nil_append, Nat.reduceAdd, Nat.zero_add, Nat.add_zero, true_and, and_self, if_true, Nat.reduceLeDiff, Nat.le_refl]; rfl) ?_)
            | (refine ldR_of (by repeat (first | exact upd_same _ _ _ | assumption | refine upd_get (by omega) ?_)) (by first | exact part_all rfl | rfl | (simp only [partA, if_true, List.drop_succ_cons, List.drop_zero, List.take_succ_cons, List.take_zero, List.length_cons, List.length_nil, Nat.reduceAdd, Nat.zero_add]; rfl)) ?_)
            | (refine dow_ld (by repeat (first | exact upd_same _ _ _ | assumption | refine upd_get (by omega) ?_)) (by first | exact part_all rfl | rfl | (simp only [partA, if_true, List.drop_succ_cons, List.drop_zero, List.take_succ_cons, List.take_zero, List.length_cons, List.length_nil, Nat.reduceAdd, Nat.zero_add]; rfl)) (by simp only [meets, and_true]; (try (repeat' apply And.intro)); all_goals (intro z; simp only [fp_d, fp_f, List.mem_cons, List.not_mem_nil, or_false, false_or, not_false_eq_true, true_and, and_true, Bool.false_eq_true, false_and, not_or]; omega)) ?_)
            | (refine dow_new (by simp only [meets, and_true]; (try (repeat' apply And.intro)); all_goals (intro z; simp only [fp_d, fp_f, List.mem_cons, List.not_mem_nil, or_false, false_or, not_false_eq_true, true_and, and_true, Bool.false_eq_true, false_and, not_or]; omega)) ?_)
            | (refine dow_box (by first | (simp only [cellsA]; rfl) | rfl) (by simp only [meets, and_true]; (try (repeat' apply And.intro)); all_goals (intro z; simp only [fp_d, fp_f, List.mem_cons, List.not_mem_nil, or_false, false_or, not_false_eq_true, true_and, and_true, Bool.false_eq_true, false_and, not_or]; omega)) ?_)
            | (refine dow_st (by repeat (first | exact upd_same _ _ _ | assumption | refine upd_get (by omega) ?_)) (by first | (simp only [cellsA]; rfl) | rfl) rfl (by first | (simp; done) | exact Nat.le_refl _) rfl (by first | exact splice_all rfl | (simp only [splice, List.take_succ_cons, List.take_zero, List.drop_succ_cons, List.drop_zero, List.length_cons, List.length_nil, List.cons_append, List.nil_append, Nat.reduceAdd, Nat.zero_add, Nat.add_zero]; rfl)) (by simp only [meets, and_true]; (try (repeat' apply And.intro)); all_goals (intro z; simp only [fp_d, fp_f, List.mem_cons, List.not_mem_nil, or_false, false_or, not_false_eq_true, true_and, and_true, Bool.false_eq_true, false_and, not_or]; omega)) ?_)
            | (refine dgw_run ?_)
            | (refine dgw_tf ?_)
            | (refine dgw_ft ?_)
            | (refine dgw_un ?_))
          exact next _ fin _ g0 g4 g5
    · repeat (first
        | (refine cw_t ?_)
        | (refine cw_f ?_)
        | (refine gw_run ?_)
        | (refine gw_tf ?_)
        | (refine gw_ft ?_)
        | (refine gw_un ?_)
        | (refine ow_pick_t ?_)
        | (refine ow_pick_f ?_)
        | (refine ow_new ?_)
        | (refine ow_nck_p ?_)
        | (refine ow_nck_i ?_)
        | (refine ow_nck_f ?_)
        | (refine ow_mki ?_)
        | (refine ow_fa rfl ?_)
        | (refine ow_ext rfl ?_)
        | (refine ow_not rfl ?_)
        | (refine ow_peq_pn rfl ?_)
        | (refine ow_peq_nn rfl ?_)
        | (refine ow_peq_np rfl ?_)
        | (refine ow_ieq_in rfl ?_)
        | (refine ow_ieq_nn rfl ?_)
        | (refine ow_ieq_ni rfl ?_)
        | (refine ow_mkf rfl rfl ?_)
        | (refine ow_box (by first | (simp only [cellsA]; rfl) | rfl) ?_)
        | (refine ow_len rfl ?_)
        | (refine ow_lss_t (by omega) ?_)
        | (refine ow_lss_f (by omega) ?_)
        | (refine ow_leq_t (by omega) ?_)
        | (refine ow_leq_f (by omega) ?_)
        | (refine ow_gtr_t (by omega) ?_)
        | (refine ow_gtr_f (by omega) ?_)
        | (refine ow_geq_t (by omega) ?_)
        | (refine ow_geq_f (by omega) ?_)
        | (refine ow_eql_t (by omega) ?_)
        | (refine ow_eql_f (by omega) ?_)
        | (refine ow_neq_t (by omega) ?_)
        | (refine ow_neq_f (by omega) ?_)
        | (refine ow_add_i rfl (by omega) (by omega) ?_)
        | (refine ow_sub_i rfl (by omega) (by omega) ?_)
        | (refine ow_conv_i (by omega) (by omega) ?_)
        | (refine ow_conv_u (by omega) (by omega) ?_)
        | (refine ow_iaA (by omega) (by omega) rfl ?_)
        | (refine ow_iaS (by omega) (by omega) rfl ?_)
        | (refine ow_ld (by repeat (first | exact upd_same _ _ _ | assumption | refine upd_get (by omega) ?_)) (by first | exact part_all rfl | rfl | (simp only [partA, if_true, List.drop_succ_cons, List.drop_zero, List.take_succ_cons, List.take_zero, List.length_cons, List.length_nil, Nat.reduceAdd, Nat.zero_add]; rfl)) ?_)
        | (refine ow_st (by repeat (first | exact upd_same _ _ _ | assumption | refine upd_get (by omega) ?_)) (by first | (simp only [cellsA]; rfl) | rfl) rfl (by first | (simp; done) | exact Nat.le_refl _) rfl (by first | exact splice_all rfl | (simp only [splice, List.take_succ_cons, List.take_zero, List.drop_succ_cons, List.drop_zero, List.length_cons, List.length_nil, List.cons_append, List.nil_append, Nat.reduceAdd, Nat.zero_add, Nat.add_zero]; rfl)) ?_)
        | (refine ow_build (by simp only [repl, List.append_nil, fillA, List.map, ev, cellsA, splice, List.take_succ_cons, List.take_zero, List.drop_succ_cons, List.drop_zero, List.length_cons, List.length_nil, List.cons_append, List.nil_append, Nat.reduceAdd, Nat.zero_add, Nat.add_zero, true_and, and_self, if_true, Nat.reduceLeDiff, Nat.le_refl]; rfl) ?_)
        | (refine ow_bsl (by simp only [repl, List.append_nil, fillA, List.map, ev, cellsA, splice, List.take_succ_cons, List.take_zero, List.drop_succ_cons, List.drop_zero, List.length_cons, List.length_nil, List.cons_append, List.nil_append, Nat.reduceAdd, Nat.zero_add, Nat.add_zero, true_and, and_self, if_true, Nat.reduceLeDiff, Nat.le_refl]; rfl) ?_)
        | (refine ldR_of (by repeat (first | exact upd_same _ _ _ | assumption | refine upd_get (by omega) ?_)) (by first | exact part_all rfl | rfl | (simp only [partA, if_true, List.drop_succ_cons, List.drop_zero, List.take_succ_cons, List.take_zero, List.length_cons, List.length_nil, Nat.reduceAdd, Nat.zero_add]; rfl)) ?_)
        | (refine dow_ld (by repeat (first | exact upd_same _ _ _ | assumption | refine upd_get (by omega) ?_)) (by first | exact part_all rfl | rfl | (simp only [partA, if_true, List.drop_succ_cons, List.drop_zero, List.take_succ_cons, List.take_zero, List.length_cons, List.length_nil, Nat.reduceAdd, Nat.zero_add]; rfl)) (by simp only [meets, and_true]; (try (repeat' apply And.intro)); all_goals (intro z; simp only [fp_d, fp_f, List.mem_cons, List.not_mem_nil, or_false, false_or, not_false_eq_true, true_and, and_true, Bool.false_eq_true, false_and, not_or]; omega)) ?_)
        | (refine dow_new (by simp only [meets, and_true]; (try (repeat' apply And.intro)); all_goals (intro z; simp only [fp_d, fp_f, List.mem_cons, List.not_mem_nil, or_false, false_or, not_false_eq_true, true_and, and_true, Bool.false_eq_true, false_and, not_or]; omega)) ?_)
        | (refine dow_box (by first | (simp only [cellsA]; rfl) | rfl) (by simp only [meets, and_true]; (try (repeat' apply And.intro)); all_goals (intro z; simp only [fp_d, fp_f, List.mem_cons, List.not_mem_nil, or_false, false_or, not_false_eq_true, true_and, and_true, Bool.false_eq_true, false_and, not_or]; omega)) ?_)
        | (refine dow_st (by repeat (first | exact upd_same _ _ _ | assumption | refine upd_get (by omega) ?_)) (by first | (simp only [cellsA]; rfl) | rfl) rfl (by first | (simp; done) | exact Nat.le_refl _) rfl (by first | exact splice_all rfl | (simp only [splice, List.take_succ_cons, List.take_zero, List.drop_succ_cons, List.drop_zero, List.length_cons, List.length_nil, List.cons_append, List.nil_append, Nat.reduceAdd, Nat.zero_add, Nat.add_zero]; rfl)) (by simp only [meets, and_true]; (try (repeat' apply And.intro)); all_goals (intro z; simp only [fp_d, fp_f, List.mem_cons, List.not_mem_nil, or_false, false_or, not_false_eq_true, true_and, and_true, Bool.false_eq_true, false_and, not_or]; omega)) ?_)
        | (refine dgw_run ?_)
        | (refine dgw_tf ?_)
        | (refine dgw_ft ?_)
        | (refine dgw_un ?_))
      rw [loopK_exit, X122_0_0_eq]
      refine ⟨?_, fun x hx => by repeat (first | rfl | refine upd_get (by omega) ?_)⟩
      rw [← hu]; simp [undN, he]
end Go.Proofs.As0
