/- Functions of the program, as they are to be shown: printed by Gen.lean. -/
import Derived.Test.YthbbncgbbkcdgaaGreatDoorT14
set_option linter.unusedSimpArgs false
set_option linter.unusedVariables false
set_option linter.unnecessarySimpa false
namespace Go.Proofs.As0
open Go Go.Eng
/-! ### 63: messuage/pred.May -/
noncomputable def W63 (t0 : AV) (h : Heap) (n : Nat) (K : KT) : Prop :=
 opW Tryz.prog (.bin .geq (.c t0) (.c (.int .i64 1))) h n fun t4 h n =>
 grdW t4 true (fun k => k t0 h n) h n fun t6 h n =>
 grdW t4 true (opW Tryz.prog (.bin .leq (.c t6) (.c (.int .i64 4))) h n) h n fun t7 h n =>
 opW Tryz.prog (.pick (.c t4) (.c t7) (.c (.bool false))) h n fun t8 h n =>
 K t8 h n
theorem W63_eq (t0 : AV) (h : Heap) (n : Nat) (K : KT) : wpF Tryz.prog 63 [t0] h n K = W63 t0 h n K := by kernel_rfl
theorem W63_ok {t0 : AV} {h : Heap} {n : Nat} {K : KT} (hk : W63 t0 h n K) : callW Tryz.prog 63 [t0] h n K := callW_of_wpF mixed (by rw [W63_eq]; exact hk)
/-! ### 64: messuage/pred.Holds -/
noncomputable def W64 (t0 t1 t2 : AV) (h : Heap) (n : Nat) (K : KT) : Prop :=
 opW Tryz.prog (.bin .eql (.c t0) (.c (.int .i64 1))) h n fun t9 h n =>
 cndW t9
  (opW Tryz.prog (.bin .eql (.c t1) (.c t2)) h n fun t12 h n =>
  K t12 h n)
  (opW Tryz.prog (.bin .eql (.c t0) (.c (.int .i64 2))) h n fun t14 h n =>
  cndW t14
   (opW Tryz.prog (.bin .neq (.c t1) (.c t2)) h n fun t17 h n =>
   K t17 h n)
   (opW Tryz.prog (.bin .eql (.c t0) (.c (.int .i64 3))) h n fun t19 h n =>
   cndW t19
    (opW Tryz.prog (.bin .lss (.c t1) (.c t2)) h n fun t22 h n =>
    K t22 h n)
    (opW Tryz.prog (.bin .eql (.c t0) (.c (.int .i64 4))) h n fun t24 h n =>
    cndW t24
     (opW Tryz.prog (.bin .gtr (.c t1) (.c t2)) h n fun t27 h n =>
     K t27 h n)
     (K (.bool false) h n))))
theorem W64_eq (t0 t1 t2 : AV) (h : Heap) (n : Nat) (K : KT) : wpF Tryz.prog 64 [t0, t1, t2] h n K = W64 t0 t1 t2 h n K := by kernel_rfl
theorem W64_ok {t0 t1 t2 : AV} {h : Heap} {n : Nat} {K : KT} (hk : W64 t0 t1 t2 h n K) : callW Tryz.prog 64 [t0, t1, t2] h n K := callW_of_wpF mixed (by rw [W64_eq]; exact hk)
/-! ### 66: messuage/pred.Turn -/
noncomputable def W66 (t0 : AV) (h : Heap) (n : Nat) (K : KT) : Prop :=
 opW Tryz.prog (.bin .eql (.c t0) (.c (.int .i64 1))) h n fun t6 h n =>
 cndW t6
  (cndW t6
   (K (.tup [t0, (.bool true)]) h n)
   (opW Tryz.prog (.bin .eql (.c t0) (.c (.int .i64 3))) h n fun t10 h n =>
   cndW t10
    (K (.tup [(.int .i64 4), (.bool true)]) h n)
    (opW Tryz.prog (.bin .eql (.c t0) (.c (.int .i64 4))) h n fun t12 h n =>
    cndW t12
     (K (.tup [(.int .i64 3), (.bool true)]) h n)
     (K (.tup [(.int .i64 0), (.bool false)]) h n))))
  (opW Tryz.prog (.bin .eql (.c t0) (.c (.int .i64 2))) h n fun t7 h n =>
  cndW t7
   (K (.tup [t0, (.bool true)]) h n)
   (opW Tryz.prog (.bin .eql (.c t0) (.c (.int .i64 3))) h n fun t10_0 h n =>
   cndW t10_0
    (K (.tup [(.int .i64 4), (.bool true)]) h n)
    (opW Tryz.prog (.bin .eql (.c t0) (.c (.int .i64 4))) h n fun t12_1 h n =>
    cndW t12_1
     (K (.tup [(.int .i64 3), (.bool true)]) h n)
     (K (.tup [(.int .i64 0), (.bool false)]) h n))))
theorem W66_eq (t0 : AV) (h : Heap) (n : Nat) (K : KT) : wpF Tryz.prog 66 [t0] h n K = W66 t0 h n K := by kernel_rfl
theorem W66_ok {t0 : AV} {h : Heap} {n : Nat} {K : KT} (hk : W66 t0 h n K) : callW Tryz.prog 66 [t0] h n K := callW_of_wpF mixed (by rw [W66_eq]; exact hk)
end Go.Proofs.As0
/- Functions of the program, as they are to be shown: printed by Gen.lean. -/
namespace Go.Proofs.As0
open Go Go.Eng
/-! ### 61: messuage/messuageref2.Within -/
noncomputable def W61 (t0 t1 : AV) (h : Heap) (n : Nat) (K : KT) : Prop :=
 callW Tryz.prog 115 [t0] h n fun t6 h n =>
 grdW t6 true (fun k => k t1 h n) h n fun t8 h n =>
 grdW t6 true (callW Tryz.prog 115 [t8] h n) h n fun t9 h n =>
 opW Tryz.prog (.pick (.c t6) (.c t9) (.c (.bool false))) h n fun t10 h n =>
 grdW t10 true (fun k => k t0 h n) h n fun t12 h n =>
 grdW t10 true (opW Tryz.prog (.bin .rem (.c t12) (.c (.int .i64 2))) h n) h n fun t13 h n =>
 grdW t10 true (opW Tryz.prog (.bin .eql (.c t13) (.c (.int .i64 0))) h n) h n fun t14 h n =>
 grdW t10 true (fun k => k t14 h n) h n fun t15 h n =>
 grdW t15 false (fun k => k t1 h n) h n fun t16 h n =>
 grdW t15 false (opW Tryz.prog (.bin .rem (.c t16) (.c (.int .i64 2))) h n) h n fun t17 h n =>
 grdW t15 false (opW Tryz.prog (.bin .eql (.c t17) (.c (.int .i64 1))) h n) h n fun t18 h n =>
 grdW t10 true (opW Tryz.prog (.pick (.c t15) (.c (.bool true)) (.c t18)) h n) h n fun t19 h n =>
 opW Tryz.prog (.pick (.c t10) (.c t19) (.c (.bool false))) h n fun t20 h n =>
 grdW t20 true (fun k => k t0 h n) h n fun t22 h n =>
 grdW t20 true (opW Tryz.prog (.bin .lss (.c t22) (.c (.int .i64 2))) h n) h n fun t23 h n =>
 grdW t20 true (fun k => k t23 h n) h n fun t24 h n =>
 grdW t24 false (fun k => k t1 h n) h n fun t25 h n =>
 grdW t24 false (opW Tryz.prog (.bin .geq (.c t25) (.c (.int .i64 2))) h n) h n fun t26 h n =>
 grdW t20 true (opW Tryz.prog (.pick (.c t24) (.c (.bool true)) (.c t26)) h n) h n fun t27 h n =>
 opW Tryz.prog (.pick (.c t20) (.c t27) (.c (.bool false))) h n fun t28 h n =>
 K t28 h n
theorem W61_eq (t0 t1 : AV) (h : Heap) (n : Nat) (K : KT) : wpF Tryz.prog 61 [t0, t1] h n K = W61 t0 t1 h n K := by kernel_rfl
theorem W61_ok {t0 t1 : AV} {h : Heap} {n : Nat} {K : KT} (hk : W61 t0 t1 h n K) : callW Tryz.prog 61 [t0, t1] h n K := callW_of_wpF mixed (by rw [W61_eq]; exact hk)
/-! ### 115: messuage/messuageref2.May -/
noncomputable def W115 (t0 : AV) (h : Heap) (n : Nat) (K : KT) : Prop :=
 opW Tryz.prog (.bin .geq (.c t0) (.c (.int .i64 1))) h n fun t4 h n =>
 grdW t4 true (fun k => k t0 h n) h n fun t6 h n =>
 grdW t4 true (opW Tryz.prog (.bin .leq (.c t6) (.c (.int .i64 3))) h n) h n fun t7 h n =>
 opW Tryz.prog (.pick (.c t4) (.c t7) (.c (.bool false))) h n fun t8 h n =>
 K t8 h n
theorem W115_eq (t0 : AV) (h : Heap) (n : Nat) (K : KT) : wpF Tryz.prog 115 [t0] h n K = W115 t0 h n K := by kernel_rfl
theorem W115_ok {t0 : AV} {h : Heap} {n : Nat} {K : KT} (hk : W115 t0 h n K) : callW Tryz.prog 115 [t0] h n K := callW_of_wpF mixed (by rw [W115_eq]; exact hk)
/-! ### 41: messuage/messuageref2.Lets -/
noncomputable def W41 (t0 t1 : AV) (h : Heap) (n : Nat) (K : KT) : Prop :=
 callW Tryz.prog 115 [t0] h n fun t6 h n =>
 opW Tryz.prog (.un .not (.c t6)) h n fun t7 h n =>
 cndW t7
  (K (.bool false) h n)
  (opW Tryz.prog (.bin .eql (.c t1) (.c (.int .i64 20))) h n fun t10 h n =>
  cndW t10
   (opW Tryz.prog (.bin .rem (.c t0) (.c (.int .i64 2))) h n fun t12 h n =>
   opW Tryz.prog (.bin .eql (.c t12) (.c (.int .i64 1))) h n fun t13 h n =>
   K t13 h n)
   (opW Tryz.prog (.bin .eql (.c t1) (.c (.int .i64 21))) h n fun t15 h n =>
   cndW t15
    (opW Tryz.prog (.bin .geq (.c t0) (.c (.int .i64 2))) h n fun t17 h n =>
    K t17 h n)
    (opW Tryz.prog (.bin .eql (.c t1) (.c (.int .i64 22))) h n fun t19 h n =>
    cndW t19
     (cndW t19
      (opW Tryz.prog (.bin .eql (.c t0) (.c (.int .i64 3))) h n fun t22 h n =>
      K t22 h n)
      (K (.bool false) h n))
     (opW Tryz.prog (.bin .eql (.c t1) (.c (.int .i64 23))) h n fun t20 h n =>
     cndW t20
      (opW Tryz.prog (.bin .eql (.c t0) (.c (.int .i64 3))) h n fun t22_0 h n =>
      K t22_0 h n)
      (K (.bool false) h n)))))
theorem W41_eq (t0 t1 : AV) (h : Heap) (n : Nat) (K : KT) : wpF Tryz.prog 41 [t0, t1] h n K = W41 t0 t1 h n K := by kernel_rfl
theorem W41_ok {t0 t1 : AV} {h : Heap} {n : Nat} {K : KT} (hk : W41 t0 t1 h n K) : callW Tryz.prog 41 [t0, t1] h n K := callW_of_wpF mixed (by rw [W41_eq]; exact hk)
/-! ### 65: messuage/messuageref2.Holds -/
noncomputable def W65 (t0 t1 t2 : AV) (h : Heap) (n : Nat) (K : KT) : Prop :=
 opW Tryz.prog (.bin .eql (.c t0) (.c (.int .i64 1))) h n fun t9 h n =>
 cndW t9
  (opW Tryz.prog (.bin .eql (.c t1) (.c t2)) h n fun t12 h n =>
  K t12 h n)
  (opW Tryz.prog (.bin .eql (.c t0) (.c (.int .i64 2))) h n fun t14 h n =>
  cndW t14
   (opW Tryz.prog (.bin .neq (.c t1) (.c t2)) h n fun t17 h n =>
   K t17 h n)
   (opW Tryz.prog (.bin .eql (.c t0) (.c (.int .i64 3))) h n fun t19 h n =>
   cndW t19
    (opW Tryz.prog (.bin .lss (.c t1) (.c t2)) h n fun t22 h n =>
    K t22 h n)
    (opW Tryz.prog (.bin .eql (.c t0) (.c (.int .i64 4))) h n fun t24 h n =>
    cndW t24
     (opW Tryz.prog (.bin .lss (.c t2) (.c t1)) h n fun t27 h n =>
     K t27 h n)
     (K (.bool false) h n))))
theorem W65_eq (t0 t1 t2 : AV) (h : Heap) (n : Nat) (K : KT) : wpF Tryz.prog 65 [t0, t1, t2] h n K = W65 t0 t1 t2 h n K := by kernel_rfl
theorem W65_ok {t0 t1 t2 : AV} {h : Heap} {n : Nat} {K : KT} (hk : W65 t0 t1 t2 h n K) : callW Tryz.prog 65 [t0, t1, t2] h n K := callW_of_wpF mixed (by rw [W65_eq]; exact hk)
/-! ### 67: messuage/messuageref2.Size -/
noncomputable def W67 (t0 : AV) (h : Heap) (n : Nat) (K : KT) : Prop :=
 opW Tryz.prog (.box (.c t0)) h n fun t1 h n =>
 opW Tryz.prog (.fa 0 (.c t1)) h n fun t3 h n =>
 opW Tryz.prog (.ld false 1 (.c t3)) h n fun t4 h n =>
 opW Tryz.prog (.bin .geq (.c t4) (.c (.int .i64 1))) h n fun t5 h n =>
 grdW t5 true (opW Tryz.prog (.fa 0 (.c t1)) h n) h n fun t7 h n =>
 grdW t5 true (opW Tryz.prog (.ld false 1 (.c t7)) h n) h n fun t8 h n =>
 grdW t5 true (opW Tryz.prog (.bin .leq (.c t8) (.c (.int .i64 8))) h n) h n fun t9 h n =>
 opW Tryz.prog (.pick (.c t5) (.c t9) (.c (.bool false))) h n fun t10 h n =>
 grdW t10 true (opW Tryz.prog (.fa 1 (.c t1)) h n) h n fun t12 h n =>
 grdW t10 true (opW Tryz.prog (.ld false 1 (.c t12)) h n) h n fun t13 h n =>
 grdW t10 true (opW Tryz.prog (.bin .geq (.c t13) (.c (.int .i64 1))) h n) h n fun t14 h n =>
 opW Tryz.prog (.pick (.c t10) (.c t14) (.c (.bool false))) h n fun t15 h n =>
 grdW t15 true (opW Tryz.prog (.fa 1 (.c t1)) h n) h n fun t17 h n =>
 grdW t15 true (opW Tryz.prog (.ld false 1 (.c t17)) h n) h n fun t18 h n =>
 grdW t15 true (opW Tryz.prog (.bin .leq (.c t18) (.c (.int .i64 4))) h n) h n fun t19 h n =>
 opW Tryz.prog (.pick (.c t15) (.c t19) (.c (.bool false))) h n fun t20 h n =>
 grdW t20 true (opW Tryz.prog (.fa 2 (.c t1)) h n) h n fun t22 h n =>
 grdW t20 true (opW Tryz.prog (.ld false 1 (.c t22)) h n) h n fun t23 h n =>
 grdW t20 true (opW Tryz.prog (.bin .geq (.c t23) (.c (.int .i64 1))) h n) h n fun t24 h n =>
 opW Tryz.prog (.pick (.c t20) (.c t24) (.c (.bool false))) h n fun t25 h n =>
 grdW t25 true (opW Tryz.prog (.fa 2 (.c t1)) h n) h n fun t27 h n =>
 grdW t25 true (opW Tryz.prog (.ld false 1 (.c t27)) h n) h n fun t28 h n =>
 grdW t25 true (opW Tryz.prog (.bin .leq (.c t28) (.c (.int .i64 16))) h n) h n fun t29 h n =>
 opW Tryz.prog (.pick (.c t25) (.c t29) (.c (.bool false))) h n fun t30 h n =>
 K t30 h n
theorem W67_eq (t0 : AV) (h : Heap) (n : Nat) (K : KT) : wpF Tryz.prog 67 [t0] h n K = W67 t0 h n K := by kernel_rfl
theorem W67_ok {t0 : AV} {h : Heap} {n : Nat} {K : KT} (hk : W67 t0 h n K) : callW Tryz.prog 67 [t0] h n K := callW_of_wpF mixed (by rw [W67_eq]; exact hk)
/-! ### 73: messuage/messuageref2.Kind -/
noncomputable def W73 (t0 : AV) (h : Heap) (n : Nat) (K : KT) : Prop :=
 opW Tryz.prog (.box (.c t0)) h n fun t1 h n =>
 opW Tryz.prog (.iaA 5 1 (.c t1) (.c (.int .i64 0))) h n fun t5 h n =>
 opW Tryz.prog (.ld false 1 (.c t5)) h n fun t6 h n =>
 opW Tryz.prog (.bin .geq (.c t6) (.c (.int .u64 1))) h n fun t8 h n =>
 grdW t8 true (fun k => k t6 h n) h n fun t10 h n =>
 grdW t8 true (opW Tryz.prog (.bin .leq (.c t10) (.c (.int .u64 10))) h n) h n fun t11 h n =>
 opW Tryz.prog (.pick (.c t8) (.c t11) (.c (.bool false))) h n fun t12 h n =>
 grdW t12 false (fun k => k t6 h n) h n fun t14 h n =>
 grdW t12 false (opW Tryz.prog (.bin .geq (.c t14) (.c (.int .u64 20))) h n) h n fun t15 h n =>
 grdW t12 false (fun k => k t15 h n) h n fun t16 h n =>
 grdW t16 true (fun k => k t6 h n) h n fun t17 h n =>
 grdW t16 true (opW Tryz.prog (.bin .leq (.c t17) (.c (.int .u64 23))) h n) h n fun t18 h n =>
 grdW t12 false (opW Tryz.prog (.pick (.c t16) (.c t18) (.c (.bool false))) h n) h n fun t19 h n =>
 opW Tryz.prog (.pick (.c t12) (.c (.bool true)) (.c t19)) h n fun t20 h n =>
 cndW t20
  (opW Tryz.prog (.conv .i64 (.c t6)) h n fun t22 h n =>
  K (.tup [t22, (.bool true)]) h n)
  (K (.tup [(.int .i64 0), (.bool false)]) h n)
theorem W73_eq (t0 : AV) (h : Heap) (n : Nat) (K : KT) : wpF Tryz.prog 73 [t0] h n K = W73 t0 h n K := by kernel_rfl
theorem W73_ok {t0 : AV} {h : Heap} {n : Nat} {K : KT} (hk : W73 t0 h n K) : callW Tryz.prog 73 [t0] h n K := callW_of_wpF mixed (by rw [W73_eq]; exact hk)
/-! ### 75: messuage/messuageref2.User -/
noncomputable def W75 (t0 : AV) (h : Heap) (n : Nat) (K : KT) : Prop :=
 opW Tryz.prog (.bin .geq (.c t0) (.c (.int .i64 20))) h n fun t4 h n =>
 grdW t4 true (fun k => k t0 h n) h n fun t6 h n =>
 grdW t4 true (opW Tryz.prog (.bin .leq (.c t6) (.c (.int .i64 23))) h n) h n fun t7 h n =>
 opW Tryz.prog (.pick (.c t4) (.c t7) (.c (.bool false))) h n fun t8 h n =>
 K t8 h n
theorem W75_eq (t0 : AV) (h : Heap) (n : Nat) (K : KT) : wpF Tryz.prog 75 [t0] h n K = W75 t0 h n K := by kernel_rfl
theorem W75_ok {t0 : AV} {h : Heap} {n : Nat} {K : KT} (hk : W75 t0 h n K) : callW Tryz.prog 75 [t0] h n K := callW_of_wpF mixed (by rw [W75_eq]; exact hk)
/-! ### 138: messuage/messuageref2.what -/
noncomputable def W138 (t0 : AV) (h : Heap) (n : Nat) (K : KT) : Prop :=
 opW Tryz.prog (.bsl 1 [(.str ⟨#[]⟩)] 11 [(0, 1, (.c (.str ⟨#[]⟩))), (1, 1, (.c (.str ⟨#[115]⟩))), (2, 1, (.c (.str ⟨#[115, 115, 114]⟩))), (3, 1, (.c (.str ⟨#[115, 101, 115, 114]⟩))), (4, 1, (.c (.str ⟨#[115]⟩))), (5, 1, (.c (.str ⟨#[115]⟩))), (6, 1, (.c (.str ⟨#[112, 115, 114]⟩))), (7, 1, (.c (.str ⟨#[112]⟩))), (8, 1, (.c (.str ⟨#[112, 114]⟩))), (9, 1, (.c (.str ⟨#[115, 119, 111, 46]⟩))), (10, 1, (.c (.str ⟨#[]⟩)))]) h n fun t5 h n =>
 opW Tryz.prog (.bin .geq (.c t0) (.c (.int .i64 0))) h n fun t7 h n =>
 grdW t7 true (fun k => k t0 h n) h n fun t9 h n =>
 grdW t7 true (fun k => k t5 h n) h n fun t10 h n =>
 grdW t7 true (opW Tryz.prog (.len (.c t10)) h n) h n fun t11 h n =>
 grdW t7 true (opW Tryz.prog (.bin .lss (.c t9) (.c t11)) h n) h n fun t12 h n =>
 opW Tryz.prog (.pick (.c t7) (.c t12) (.c (.bool false))) h n fun t13 h n =>
 cndW t13
  (opW Tryz.prog (.iaS 1 (.c t5) (.c t0)) h n fun t16 h n =>
  opW Tryz.prog (.ld false 1 (.c t16)) h n fun t17 h n =>
  K t17 h n)
  (opW Tryz.prog (.bsl 1 [(.str ⟨#[]⟩)] 4 [(0, 1, (.c (.str ⟨#[112, 119]⟩))), (1, 1, (.c (.str ⟨#[112, 119, 46]⟩))), (2, 1, (.c (.str ⟨#[112, 119, 46, 46]⟩))), (3, 1, (.c (.str ⟨#[112, 119, 46]⟩)))]) h n fun t18 h n =>
  opW Tryz.prog (.bin .geq (.c t0) (.c (.int .i64 20))) h n fun t20 h n =>
  grdW t20 true (fun k => k t0 h n) h n fun t22 h n =>
  grdW t20 true (opW Tryz.prog (.bin .leq (.c t22) (.c (.int .i64 23))) h n) h n fun t23 h n =>
  opW Tryz.prog (.pick (.c t20) (.c t23) (.c (.bool false))) h n fun t24 h n =>
  cndW t24
   (opW Tryz.prog (.bin .sub (.c t0) (.c (.int .i64 20))) h n fun t27 h n =>
   opW Tryz.prog (.iaS 1 (.c t18) (.c t27)) h n fun t28 h n =>
   opW Tryz.prog (.ld false 1 (.c t28)) h n fun t29 h n =>
   K t29 h n)
   (K (.str ⟨#[]⟩) h n))
theorem W138_eq (t0 : AV) (h : Heap) (n : Nat) (K : KT) : wpF Tryz.prog 138 [t0] h n K = W138 t0 h n K := by kernel_rfl
theorem W138_ok {t0 : AV} {h : Heap} {n : Nat} {K : KT} (hk : W138 t0 h n K) : callW Tryz.prog 138 [t0] h n K := callW_of_wpF mixed (by rw [W138_eq]; exact hk)
/-! ### 74: messuage/messuageref2.Check -/
/-- The loop 0's body. -/
noncomputable def B74_0 (κ : KC) (g : Nat → AV) (h : Heap) (n : Nat) : Prop :=
 opW Tryz.prog (.lenStr (.c (g 7))) h n fun t22 h n =>
 opW Tryz.prog (.bin .lss (.c (g 8)) (.c t22)) h n fun t23 h n =>
 cndW t23
  (opW Tryz.prog (.bin .add (.c (g 8)) (.c (.int .i64 1))) h n fun t27 h n =>
  opW Tryz.prog (.iaA 5 1 (.c (g 2)) (.c t27)) h n fun t28 h n =>
  opW Tryz.prog (.ld false 1 (.c t28)) h n fun t29 h n =>
  opW Tryz.prog (.ixS (.c (g 7)) (.c (g 8))) h n fun t32 h n =>
  opW Tryz.prog (.bin .eql (.c t32) (.c (.int .u8 115))) h n fun t34 h n =>
  cndW t34
   (opW Tryz.prog (.bin .geq (.c t29) (.c (.int .u64 8))) h n fun t36 h n =>
   cndW t36
    (κ .ret (tl 72 (ug g [(4, (.int .i64 2)), (71, t36), (10, t36), (36, t36), (35, t29), (33, t34), (34, t34), (32, t32), (31, (g 8)), (30, (g 7)), (9, t29), (29, t29), (28, t28), (27, t27), (26, (g 8)), (23, t23), (22, t22), (21, (g 7)), (20, (g 8))])) h n)
    (opW Tryz.prog (.bin .add (.c (g 8)) (.c (.int .i64 1))) h n fun t25 h n =>
    κ .normal (tl 72 (ug g [(8, t25), (25, t25), (24, (g 8)), (71, t36), (10, t36), (36, t36), (35, t29), (33, t34), (34, t34), (32, t32), (31, (g 8)), (30, (g 7)), (9, t29), (29, t29), (28, t28), (27, t27), (26, (g 8)), (23, t23), (22, t22), (21, (g 7)), (20, (g 8))])) h n))
   (opW Tryz.prog (.bin .eql (.c t32) (.c (.int .u8 112))) h n fun t38 h n =>
   cndW t38
    (opW Tryz.prog (.bin .geq (.c t29) (.c (.int .u64 8))) h n fun t40 h n =>
    cndW t40
     (κ .ret (tl 72 (ug g [(4, (.int .i64 2)), (71, t40), (10, t40), (40, t40), (39, t29), (37, t38), (38, t38), (33, t34), (34, t34), (32, t32), (31, (g 8)), (30, (g 7)), (9, t29), (29, t29), (28, t28), (27, t27), (26, (g 8)), (23, t23), (22, t22), (21, (g 7)), (20, (g 8))])) h n)
     (opW Tryz.prog (.bin .add (.c (g 8)) (.c (.int .i64 1))) h n fun t25_0 h n =>
     κ .normal (tl 72 (ug g [(8, t25_0), (25, t25_0), (24, (g 8)), (71, t40), (10, t40), (40, t40), (39, t29), (37, t38), (38, t38), (33, t34), (34, t34), (32, t32), (31, (g 8)), (30, (g 7)), (9, t29), (29, t29), (28, t28), (27, t27), (26, (g 8)), (23, t23), (22, t22), (21, (g 7)), (20, (g 8))])) h n))
    (opW Tryz.prog (.bin .eql (.c t32) (.c (.int .u8 119))) h n fun t42 h n =>
    cndW t42
     (opW Tryz.prog (.bin .geq (.c t29) (.c (.int .u64 16))) h n fun t44 h n =>
     cndW t44
      (κ .ret (tl 72 (ug g [(4, (.int .i64 2)), (71, t44), (10, t44), (44, t44), (43, t29), (41, t42), (42, t42), (37, t38), (38, t38), (33, t34), (34, t34), (32, t32), (31, (g 8)), (30, (g 7)), (9, t29), (29, t29), (28, t28), (27, t27), (26, (g 8)), (23, t23), (22, t22), (21, (g 7)), (20, (g 8))])) h n)
      (opW Tryz.prog (.bin .add (.c (g 8)) (.c (.int .i64 1))) h n fun t25_1 h n =>
      κ .normal (tl 72 (ug g [(8, t25_1), (25, t25_1), (24, (g 8)), (71, t44), (10, t44), (44, t44), (43, t29), (41, t42), (42, t42), (37, t38), (38, t38), (33, t34), (34, t34), (32, t32), (31, (g 8)), (30, (g 7)), (9, t29), (29, t29), (28, t28), (27, t27), (26, (g 8)), (23, t23), (22, t22), (21, (g 7)), (20, (g 8))])) h n))
     (opW Tryz.prog (.bin .eql (.c t32) (.c (.int .u8 101))) h n fun t46 h n =>
     cndW t46
      (opW Tryz.prog (.bin .lss (.c (g 1)) (.c (.int .i64 1))) h n fun t48 h n =>
      grdW t48 false (fun k => k t29 h n) h n fun t50 h n =>
      grdW t48 false (fun k => k (g 1) h n) h n fun t51 h n =>
      grdW t48 false (opW Tryz.prog (.conv .u64 (.c t51)) h n) h n fun t52 h n =>
      grdW t48 false (opW Tryz.prog (.bin .geq (.c t50) (.c t52)) h n) h n fun t53 h n =>
      opW Tryz.prog (.pick (.c t48) (.c (.bool true)) (.c t53)) h n fun t54 h n =>
      cndW t54
       (κ .ret (tl 72 (ug g [(4, (.int .i64 2)), (71, t54), (10, t54), (54, t54), (53, t53), (52, t52), (51, t51), (50, t50), (49, t48), (48, t48), (47, (g 1)), (45, t46), (46, t46), (41, t42), (42, t42), (37, t38), (38, t38), (33, t34), (34, t34), (32, t32), (31, (g 8)), (30, (g 7)), (9, t29), (29, t29), (28, t28), (27, t27), (26, (g 8)), (23, t23), (22, t22), (21, (g 7)), (20, (g 8))])) h n)
       (opW Tryz.prog (.bin .add (.c (g 8)) (.c (.int .i64 1))) h n fun t25_2 h n =>
       κ .normal (tl 72 (ug g [(8, t25_2), (25, t25_2), (24, (g 8)), (71, t54), (10, t54), (54, t54), (53, t53), (52, t52), (51, t51), (50, t50), (49, t48), (48, t48), (47, (g 1)), (45, t46), (46, t46), (41, t42), (42, t42), (37, t38), (38, t38), (33, t34), (34, t34), (32, t32), (31, (g 8)), (30, (g 7)), (9, t29), (29, t29), (28, t28), (27, t27), (26, (g 8)), (23, t23), (22, t22), (21, (g 7)), (20, (g 8))])) h n))
      (opW Tryz.prog (.bin .eql (.c t32) (.c (.int .u8 114))) h n fun t56 h n =>
      cndW t56
       (opW Tryz.prog (.bin .lss (.c t29) (.c (.int .u64 1))) h n fun t58 h n =>
       grdW t58 false (fun k => k t29 h n) h n fun t60 h n =>
       grdW t58 false (opW Tryz.prog (.bin .gtr (.c t60) (.c (.int .u64 3))) h n) h n fun t61 h n =>
       opW Tryz.prog (.pick (.c t58) (.c (.bool true)) (.c t61)) h n fun t62 h n =>
       cndW t62
        (κ .ret (tl 72 (ug g [(4, (.int .i64 2)), (71, t62), (10, t62), (62, t62), (61, t61), (60, t60), (59, t58), (58, t58), (57, t29), (55, t56), (56, t56), (45, t46), (46, t46), (41, t42), (42, t42), (37, t38), (38, t38), (33, t34), (34, t34), (32, t32), (31, (g 8)), (30, (g 7)), (9, t29), (29, t29), (28, t28), (27, t27), (26, (g 8)), (23, t23), (22, t22), (21, (g 7)), (20, (g 8))])) h n)
        (opW Tryz.prog (.bin .add (.c (g 8)) (.c (.int .i64 1))) h n fun t25_3 h n =>
        κ .normal (tl 72 (ug g [(8, t25_3), (25, t25_3), (24, (g 8)), (71, t62), (10, t62), (62, t62), (61, t61), (60, t60), (59, t58), (58, t58), (57, t29), (55, t56), (56, t56), (45, t46), (46, t46), (41, t42), (42, t42), (37, t38), (38, t38), (33, t34), (34, t34), (32, t32), (31, (g 8)), (30, (g 7)), (9, t29), (29, t29), (28, t28), (27, t27), (26, (g 8)), (23, t23), (22, t22), (21, (g 7)), (20, (g 8))])) h n))
       (opW Tryz.prog (.bin .eql (.c t32) (.c (.int .u8 111))) h n fun t64 h n =>
       cndW t64
        (opW Tryz.prog (.bin .lss (.c t29) (.c (.int .u64 1))) h n fun t66 h n =>
        grdW t66 false (fun k => k t29 h n) h n fun t68 h n =>
        grdW t66 false (opW Tryz.prog (.bin .gtr (.c t68) (.c (.int .u64 4))) h n) h n fun t69 h n =>
        opW Tryz.prog (.pick (.c t66) (.c (.bool true)) (.c t69)) h n fun t70 h n =>
        cndW t70
         (κ .ret (tl 72 (ug g [(4, (.int .i64 2)), (71, t70), (10, t70), (70, t70), (69, t69), (68, t68), (67, t66), (66, t66), (65, t29), (63, t64), (64, t64), (55, t56), (56, t56), (45, t46), (46, t46), (41, t42), (42, t42), (37, t38), (38, t38), (33, t34), (34, t34), (32, t32), (31, (g 8)), (30, (g 7)), (9, t29), (29, t29), (28, t28), (27, t27), (26, (g 8)), (23, t23), (22, t22), (21, (g 7)), (20, (g 8))])) h n)
         (opW Tryz.prog (.bin .add (.c (g 8)) (.c (.int .i64 1))) h n fun t25_4 h n =>
         κ .normal (tl 72 (ug g [(8, t25_4), (25, t25_4), (24, (g 8)), (71, t70), (10, t70), (70, t70), (69, t69), (68, t68), (67, t66), (66, t66), (65, t29), (63, t64), (64, t64), (55, t56), (56, t56), (45, t46), (46, t46), (41, t42), (42, t42), (37, t38), (38, t38), (33, t34), (34, t34), (32, t32), (31, (g 8)), (30, (g 7)), (9, t29), (29, t29), (28, t28), (27, t27), (26, (g 8)), (23, t23), (22, t22), (21, (g 7)), (20, (g 8))])) h n))
        (cndW (.bool false)
         (κ .ret (tl 72 (ug g [(4, (.int .i64 2)), (71, (.bool false)), (63, t64), (64, t64), (55, t56), (56, t56), (45, t46), (46, t46), (41, t42), (42, t42), (37, t38), (38, t38), (33, t34), (34, t34), (32, t32), (31, (g 8)), (30, (g 7)), (10, (.bool false)), (9, t29), (29, t29), (28, t28), (27, t27), (26, (g 8)), (23, t23), (22, t22), (21, (g 7)), (20, (g 8))])) h n)
         (opW Tryz.prog (.bin .add (.c (g 8)) (.c (.int .i64 1))) h n fun t25_5 h n =>
         κ .normal (tl 72 (ug g [(8, t25_5), (25, t25_5), (24, (g 8)), (71, (.bool false)), (63, t64), (64, t64), (55, t56), (56, t56), (45, t46), (46, t46), (41, t42), (42, t42), (37, t38), (38, t38), (33, t34), (34, t34), (32, t32), (31, (g 8)), (30, (g 7)), (10, (.bool false)), (9, t29), (29, t29), (28, t28), (27, t27), (26, (g 8)), (23, t23), (22, t22), (21, (g 7)), (20, (g 8))])) h n))))))))
  (κ (.exit 0) (tl 72 (ug g [(23, t23), (22, t22), (21, (g 7)), (20, (g 8))])) h n)
theorem B74_0_eq (κ : KC) (g : Nat → AV) (h : Heap) (n : Nat) : wpC Tryz.prog (cAt [1, 1, 1, 1, 0, 1, 0, 0] (bodyOf Tryz.prog 74)) κ (tl 72 g) h n = B74_0 κ g h n := by kernel_rfl
noncomputable def k74_0 (κ : KC) : KC := thenK (fun a h n => wpC Tryz.prog (cAt [1, 1, 1, 1, 1] (bodyOf Tryz.prog 74)) κ a h n) κ
/-- Behind the loop 0, by its exit 0. -/
noncomputable def X74_0_0 (K : KT) (g : Nat → AV) (h : Heap) (n : Nat) : Prop :=
 K (.int .i64 0) h n
theorem X74_0_0_eq (K : KT) (g : Nat → AV) (h : Heap) (n : Nat) : (blockK 0 (k74_0 (retK Tryz.prog (resOf Tryz.prog 74) K))) (.exit 0) (tl 72 g) h n = X74_0_0 K g h n := by kernel_rfl
theorem X74_0_ret_eq (K : KT) (g : Nat → AV) (h : Heap) (n : Nat) : (blockK 0 (k74_0 (retK Tryz.prog (resOf Tryz.prog 74) K))) .ret (tl 72 g) h n = (K (g 4) h n) := by kernel_rfl
noncomputable def W74 (t0 t1 : AV) (h : Heap) (n : Nat) (K : KT) : Prop :=
 opW Tryz.prog (.box (.c t0)) h n fun t2 h n =>
 opW Tryz.prog (.ld true 5 (.c t2)) h n fun t12 h n =>
 callW Tryz.prog 73 [t12] h n fun t13 h n =>
 opW Tryz.prog (.ext (.c t13) 0) h n fun t14 h n =>
 opW Tryz.prog (.ext (.c t13) 1) h n fun t15 h n =>
 opW Tryz.prog (.un .not (.c t15)) h n fun t17 h n =>
 cndW t17
  (K (.int .i64 1) h n)
  (callW Tryz.prog 138 [t14] h n fun t19 h n =>
  loopW Tryz.prog (cAt [1, 1, 1, 1, 0, 1, 0, 0] (bodyOf Tryz.prog 74)) ((blockK 0 (k74_0 (retK Tryz.prog (resOf Tryz.prog 74) K)))) (tl 72 (gl [t0, t1, t2, undefA, (.int .i64 0), t14, t15, t19, (.int .i64 0), undefA, undefA, t13, t12, t13, t14, t15, t15, t17, t14, t19])) h n)
theorem W74_eq (t0 t1 : AV) (h : Heap) (n : Nat) (K : KT) : wpF Tryz.prog 74 [t0, t1] h n K = W74 t0 t1 h n K := by kernel_rfl
theorem W74_ok {t0 t1 : AV} {h : Heap} {n : Nat} {K : KT} (hk : W74 t0 t1 h n K) : callW Tryz.prog 74 [t0, t1] h n K := callW_of_wpF mixed (by rw [W74_eq]; exact hk)
end Go.Proofs.As0
/- Functions of the program, as they are to be shown: printed by Gen.lean. -/
namespace Go.Proofs.As0
open Go Go.Eng
/-! ### 16: messuage/messuagelaw11.PredAll -/
noncomputable def W16 (t0 t1 t2 : AV) (h : Heap) (n : Nat) (K : KT) : Prop :=
 callW Tryz.prog 25 [] h n fun t12 h n =>
 opW Tryz.prog (.un .not (.c t12)) h n fun t14 h n =>
 cndW t14
  (K (.bool false) h n)
  (callW Tryz.prog 63 [t0] h n fun t16 h n =>
  opW Tryz.prog (.bin .geq (.c t0) (.c (.int .i64 1))) h n fun t18 h n =>
  grdW t18 true (fun k => k t0 h n) h n fun t20 h n =>
  grdW t18 true (opW Tryz.prog (.bin .leq (.c t20) (.c (.int .i64 4))) h n) h n fun t21 h n =>
  opW Tryz.prog (.pick (.c t18) (.c t21) (.c (.bool false))) h n fun t22 h n =>
  opW Tryz.prog (.beq true (.c t16) (.c t22)) h n fun t23 h n =>
  grdW t23 false (fun k => k t0 h n) h n fun t25 h n =>
  grdW t23 false (fun k => k t1 h n) h n fun t26 h n =>
  grdW t23 false (fun k => k t2 h n) h n fun t27 h n =>
  grdW t23 false (callW Tryz.prog 64 [t25, t26, t27] h n) h n fun t28 h n =>
  grdW t23 false (fun k => k t0 h n) h n fun t29 h n =>
  grdW t23 false (fun k => k t1 h n) h n fun t30 h n =>
  grdW t23 false (fun k => k t2 h n) h n fun t31 h n =>
  grdW t23 false (callW Tryz.prog 65 [t29, t30, t31] h n) h n fun t32 h n =>
  grdW t23 false (opW Tryz.prog (.beq true (.c t28) (.c t32)) h n) h n fun t33 h n =>
  opW Tryz.prog (.pick (.c t23) (.c (.bool true)) (.c t33)) h n fun t34 h n =>
  cndW t34
   (K (.bool false) h n)
   (callW Tryz.prog 66 [t0] h n fun t37 h n =>
   opW Tryz.prog (.ext (.c t37) 0) h n fun t38 h n =>
   opW Tryz.prog (.ext (.c t37) 1) h n fun t39 h n =>
   callW Tryz.prog 66 [t38] h n fun t42 h n =>
   opW Tryz.prog (.ext (.c t42) 0) h n fun t43 h n =>
   opW Tryz.prog (.ext (.c t42) 1) h n fun t44 h n =>
   callW Tryz.prog 63 [t0] h n fun t47 h n =>
   opW Tryz.prog (.beq false (.c t39) (.c t47)) h n fun t48 h n =>
   grdW t48 true (fun k => k t39 h n) h n fun t50 h n =>
   grdW t48 true (fun k => k t50 h n) h n fun t51 h n =>
   grdW t51 true (fun k => k t38 h n) h n fun t52 h n =>
   grdW t51 true (fun k => k t2 h n) h n fun t53 h n =>
   grdW t51 true (fun k => k t1 h n) h n fun t54 h n =>
   grdW t51 true (callW Tryz.prog 64 [t52, t53, t54] h n) h n fun t55 h n =>
   grdW t51 true (fun k => k t0 h n) h n fun t56 h n =>
   grdW t51 true (fun k => k t1 h n) h n fun t57 h n =>
   grdW t51 true (fun k => k t2 h n) h n fun t58 h n =>
   grdW t51 true (callW Tryz.prog 64 [t56, t57, t58] h n) h n fun t59 h n =>
   grdW t51 true (opW Tryz.prog (.beq false (.c t55) (.c t59)) h n) h n fun t60 h n =>
   grdW t48 true (opW Tryz.prog (.pick (.c t51) (.c t60) (.c (.bool false))) h n) h n fun t61 h n =>
   grdW t48 true (fun k => k t61 h n) h n fun t62 h n =>
   grdW t62 true (fun k => k t43 h n) h n fun t63 h n =>
   grdW t62 true (fun k => k t0 h n) h n fun t64 h n =>
   grdW t62 true (opW Tryz.prog (.bin .eql (.c t63) (.c t64)) h n) h n fun t65 h n =>
   grdW t48 true (opW Tryz.prog (.pick (.c t62) (.c t65) (.c (.bool false))) h n) h n fun t66 h n =>
   grdW t48 true (fun k => k t66 h n) h n fun t67 h n =>
   grdW t67 false (fun k => k t39 h n) h n fun t68 h n =>
   grdW t67 false (opW Tryz.prog (.un .not (.c t68)) h n) h n fun t69 h n =>
   grdW t67 false (fun k => k t69 h n) h n fun t70 h n =>
   grdW t70 true (fun k => k t38 h n) h n fun t71 h n =>
   grdW t70 true (opW Tryz.prog (.bin .eql (.c t71) (.c (.int .i64 0))) h n) h n fun t72 h n =>
   grdW t67 false (opW Tryz.prog (.pick (.c t70) (.c t72) (.c (.bool false))) h n) h n fun t73 h n =>
   grdW t67 false (fun k => k t73 h n) h n fun t74 h n =>
   grdW t74 true (fun k => k t0 h n) h n fun t75 h n =>
   grdW t74 true (fun k => k t1 h n) h n fun t76 h n =>
   grdW t74 true (fun k => k t2 h n) h n fun t77 h n =>
   grdW t74 true (callW Tryz.prog 64 [t75, t76, t77] h n) h n fun t78 h n =>
   grdW t74 true (opW Tryz.prog (.un .not (.c t78)) h n) h n fun t79 h n =>
   grdW t67 false (opW Tryz.prog (.pick (.c t74) (.c t79) (.c (.bool false))) h n) h n fun t80 h n =>
   grdW t48 true (opW Tryz.prog (.pick (.c t67) (.c (.bool true)) (.c t80)) h n) h n fun t81 h n =>
   opW Tryz.prog (.pick (.c t48) (.c t81) (.c (.bool false))) h n fun t82 h n =>
   K t82 h n))
theorem W16_eq (t0 t1 t2 : AV) (h : Heap) (n : Nat) (K : KT) : wpF Tryz.prog 16 [t0, t1, t2] h n K = W16 t0 t1 t2 h n K := by kernel_rfl
theorem W16_ok {t0 t1 t2 : AV} {h : Heap} {n : Nat} {K : KT} (hk : W16 t0 t1 t2 h n K) : callW Tryz.prog 16 [t0, t1, t2] h n K := callW_of_wpF mixed (by rw [W16_eq]; exact hk)
end Go.Proofs.As0
