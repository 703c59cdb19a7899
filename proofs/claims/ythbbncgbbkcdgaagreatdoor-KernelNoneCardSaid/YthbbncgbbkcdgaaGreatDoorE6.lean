/- Engine, part 6: the operations, continued. -/
import Derived.Test.YthbbncgbbkcdgaaGreatDoorE5
namespace Go.Eng
open Go

section
variable {P : Program} {dst : Option Tmp} {type : TypeId} {pos : String} {after : Array Edge} {guard : Option (Nat × Bool)}

theorem negOf_spec {op : BinOp} {g : Bool} (h : negOf op = some g) : (op = .eql ∧ g = false) ∨ (op = .neq ∧ g = true) := by
  cases op <;> simp [negOf] at h <;> simp [h]

/-- '==' and '!=', once what 'equal' says is known. -/
theorem run_eq_of {op : BinOp} {g : Bool} (hg : negOf op = some g) {t : TypeId} {x y : Operand} {u v : Value} {r : Bool} {w : World}
    (hgu : ∀ op, (eqGuard op t x y u v).run P w = .ok () w) (he : (Op.equal t u v).run P w = .ok r w)
    (hb1 : binOp .eql t u v = (do pure (.bool (← Op.equal t u v)))) (hb2 : binOp .neq t u v = (do pure (.bool (!(← Op.equal t u v))))) :
    (do eqGuard op t x y u v; binOp op t u v : Sem Value).run P w = .ok (.bool (r != g)) w := by
  rcases negOf_spec hg with ⟨rfl, rfl⟩ | ⟨rfl, rfl⟩
  · simp [hgu, hb1, he]
  · simp [hgu, hb2, he]

theorem run_bin_of {op : BinOp} {t yt : TypeId} {x y : Operand} {ρ : Operand → Value} {u : Value} {w : World}
    (h : (do eqGuard op t x y (ρ x) (ρ y); binOp op t (ρ x) (ρ y) : Sem Value).run P w = .ok u w) : (execOp ρ ⟨dst, .binOp op t x y yt, type, pos, after, guard⟩).run P w = .ok (.value u) w := by
  simp only [execOp]
  simp only [Sem.run_bind] at h ⊢
  rw [h]
  rfl

theorem sound_beq (op : BinOp) (t yt : TypeId) (x y : Operand) (g : Bool) (ht : P.underlying t = some .bool) (hg : negOf op = some g) :
    Sound P ⟨dst, .binOp op t x y yt, type, pos, after, guard⟩ (.beq g (cx x) (cx y)) := by
  intro ρ a μ U h w n v rd eff hs ha r hn he
  simp only [aop] at he
  split at he
  case h_2 => cases he
  rename_i p q hx hy
  simp only [Option.some.injEq, Prod.mk.injEq] at he
  obtain ⟨rfl, rfl, rfl⟩ := he
  refine Done.pure r (run_bin_of ?_) (by simp [vok])
  simp only [hs x (by simp [Op.operands, Call.operands]), hs y (by simp [Op.operands, Call.operands]), hx, hy, conc]
  exact run_eq_of hg (fun op => by cases op <;> simp [eqGuard]) (run_equalIn_bool' w 9999 t p q ht) rfl rfl

theorem sound_sbin (op : BinOp) (t yt : TypeId) (x y : Operand) : Sound P ⟨dst, .binOp op t x y yt, type, pos, after, guard⟩ (.sbin op (cx x) (cx y)) := by
  intro ρ a μ U h w n v rd eff hs ha r hn he
  simp only [aop, Option.map_eq_some_iff, Prod.mk.injEq] at he
  obtain ⟨v', hv', rfl, rfl, rfl⟩ := he
  unfold sbinA at hv'
  split at hv'
  case h_2 => cases hv'
  rename_i p q hx hy
  refine Done.pure' r (u := conc μ v') (run_bin_of ?_) rfl ?_
  · simp only [hs x (by simp [Op.operands, Call.operands]), hs y (by simp [Op.operands, Call.operands]), hx, hy, conc]
    split at hv'
    · split at hv'
      · cases hv'
      · rename_i hb
        cases hv'
        have hb' : ¬ (((p.size + q.size : Nat) : Int) > IntKind.i64.max) := hb
        simp only [eqGuard, binOp, Op.stringOp, conc, Sem.run_bind]
        rw [if_neg hb']
        rfl
    · cases hv'; simp [eqGuard, binOp, Op.stringOp, conc]
    · cases hv'; simp [eqGuard, binOp, Op.stringOp, conc]
    · cases hv'
  · split at hv'
    · split at hv' <;> cases hv'; simp [vok]
    · cases hv'; simp [vok]
    · cases hv'; simp [vok]
    · cases hv'

section
variable (w : World) (d : Nat) {t e : TypeId} {ms : Array (String × TypeId)}
theorem eqin_ptr_nn (ht : P.underlying t = some (.pointer e)) : (Op.equalIn (d + 1) t (.pointer none) (.pointer none)).run P w = .ok true w := by simp [Op.equalIn, run_underlying ht]
theorem eqin_ptr_ns (ht : P.underlying t = some (.pointer e)) (a : Addr) : (Op.equalIn (d + 1) t (.pointer none) (.pointer (some a))).run P w = .ok false w := by simp [Op.equalIn, run_underlying ht]
theorem eqin_ptr_sn (ht : P.underlying t = some (.pointer e)) (a : Addr) : (Op.equalIn (d + 1) t (.pointer (some a)) (.pointer none)).run P w = .ok false w := by simp [Op.equalIn, run_underlying ht]
theorem eqin_ptr_ss (ht : P.underlying t = some (.pointer e)) {i : TypeInfo} (hi : P.info? e = some i) (hsz : i.size ≠ 0) (a b : Addr) : (Op.equalIn (d + 1) t (.pointer (some a)) (.pointer (some b))).run P w = (sameAddr a b).run P w := by
  simp [Op.equalIn, run_underlying ht, sizeOf, typeInfo, hi, hsz]
theorem eqin_if_nn (ht : P.underlying t = some (.interface ms)) : (Op.equalIn (d + 1) t .nilIface .nilIface).run P w = .ok true w := by simp [Op.equalIn, run_underlying ht]
theorem eqin_if_ns (ht : P.underlying t = some (.interface ms)) (k : TypeId) (v : Value) : (Op.equalIn (d + 1) t .nilIface (.iface k v)).run P w = .ok false w := by simp [Op.equalIn, run_underlying ht]
theorem eqin_if_sn (ht : P.underlying t = some (.interface ms)) (k : TypeId) (v : Value) : (Op.equalIn (d + 1) t (.iface k v) .nilIface).run P w = .ok false w := by simp [Op.equalIn, run_underlying ht]
theorem eqin_if_ss (ht : P.underlying t = some (.interface ms)) (k : TypeId) (u v : Value) {i : TypeInfo} (hi : P.info? k = some i) (hc : i.comparable = true) :
    (Op.equalIn (d + 1) t (.iface k u) (.iface k v)).run P w = (Op.equalIn d k u v).run P w := by simp [Op.equalIn, run_underlying ht, typeInfo, hi, hc]
theorem eqin_if_sd (ht : P.underlying t = some (.interface ms)) (k l : TypeId) (u v : Value) (hne : k ≠ l) :
    (Op.equalIn (d + 1) t (.iface k u) (.iface l v)).run P w = .ok false w := by simp [Op.equalIn, run_underlying ht, hne]
theorem eqin_sl_nn (ht : P.underlying t = some (.slice e)) : (Op.equalIn (d + 1) t (.slice none 0 0) (.slice none 0 0)).run P w = .ok true w := by simp [Op.equalIn, run_underlying ht]
theorem eqin_sl_ns (ht : P.underlying t = some (.slice e)) (a : Addr) (l c : Nat) : (Op.equalIn (d + 1) t (.slice none 0 0) (.slice (some a) l c)).run P w = .ok false w := by simp [Op.equalIn, run_underlying ht]
theorem eqin_sl_sn (ht : P.underlying t = some (.slice e)) (a : Addr) (l c : Nat) : (Op.equalIn (d + 1) t (.slice (some a) l c) (.slice none 0 0)).run P w = .ok false w := by simp [Op.equalIn, run_underlying ht]
end

theorem frozen_at {μ : Map} {w : World} {b e : Nat} {cs : List AV} (hb : BlkAt μ w b (.cells e cs)) (o : Nat) (s : Option Nat) : w.frozen? ⟨(μ b).blk, o, s⟩ = false := by
  obtain ⟨c, ty, h1, _⟩ := hb
  simp [World.frozen?, h1]

theorem shape_at {μ : Map} {w : World} {b e : Nat} {cs : List AV} (hb : BlkAt μ w b (.cells e cs)) : ∃ t n, w.shape? (μ b).blk = some (t, n) := by
  obtain ⟨c, ty, h1, _⟩ := hb
  exact ⟨ty, c.size, by simp [World.shape?, h1]⟩

theorem run_sameAddr_ne {μ : Map} {w : World} {b b' e e' o o' : Nat} {cs cs' : List AV} (hb : BlkAt μ w b (.cells e cs)) (hb' : BlkAt μ w b' (.cells e' cs')) (hne : (μ b).blk ≠ (μ b').blk) :
    (sameAddr ⟨(μ b).blk, o, none⟩ ⟨(μ b').blk, o', none⟩).run P w = .ok false w := by
  obtain ⟨t, k, hsh⟩ := shape_at hb
  obtain ⟨t', k', hsh'⟩ := shape_at hb'
  have hf := fun o s => frozen_at hb o s
  have hf' := fun o s => frozen_at hb' o s
  have hv : (viewAt (μ b).blk).run P w = .ok none w := by simp [viewAt, hsh]
  have hv' : (viewAt (μ b').blk).run P w = .ok none w := by simp [viewAt, hsh']
  have hst : (stringish ⟨(μ b).blk, o, none⟩).run P w = .ok false w := by simp [stringish, hf, hsh]
  have hst' : (stringish ⟨(μ b').blk, o', none⟩).run P w = .ok false w := by simp [stringish, hf', hsh']
  have hm : (mayBeOne ⟨(μ b).blk, o, none⟩ ⟨(μ b').blk, o', none⟩).run P w = .ok false w := by
    simp [mayBeOne, hst, hst']
  simp [sameAddr, hne, hf, noView, hv, hv', hm]

theorem sound_peq (op : BinOp) (t yt : TypeId) (x y : Operand) (g : Bool) (e : TypeId) (i : TypeInfo) (ht : P.underlying t = some (.pointer e)) (hi : P.info? e = some i) (hsz : i.size ≠ 0) (hg : negOf op = some g) :
    Sound P ⟨dst, .binOp op t x y yt, type, pos, after, guard⟩ (.peq g (cx x) (cx y)) := by
  intro ρ a μ U h w n v rd eff hs ha r hn he
  have fin : ∀ (u v' : Value) (q : Bool), ρ x = u → ρ y = v' → (∃ p, u = .pointer p) → (∃ p, v' = .pointer p) → (Op.equal t u v').run P w = .ok q w →
      (execOp ρ ⟨dst, .binOp op t x y yt, type, pos, after, guard⟩).run P w = .ok (.value (.bool (q != g))) w := by
    rintro u v' q hu hv ⟨p, rfl⟩ ⟨p', rfl⟩ hq
    refine run_bin_of ?_
    rw [hu, hv]
    exact run_eq_of hg (fun op => by cases op <;> simp [eqGuard]) hq rfl rfl
  simp only [aop] at he
  split at he
  · rename_i hx hy
    simp only [Option.some.injEq, Prod.mk.injEq] at he
    obtain ⟨rfl, rfl, rfl⟩ := he
    exact Done.pure r (fin _ _ true (by rw [hs x (by simp [Op.operands, Call.operands]), hx]; rfl) (by rw [hs y (by simp [Op.operands, Call.operands]), hy]; rfl) ⟨_, rfl⟩ ⟨_, rfl⟩ (eqin_ptr_nn w 9999 ht)) (by simp [vok])
  · rename_i hx hy
    simp only [Option.some.injEq, Prod.mk.injEq] at he
    obtain ⟨rfl, rfl, rfl⟩ := he
    exact Done.pure r (fin _ _ false (by rw [hs x (by simp [Op.operands, Call.operands]), hx]; rfl) (by rw [hs y (by simp [Op.operands, Call.operands]), hy]; simp only [conc]; rfl) ⟨_, rfl⟩ ⟨_, rfl⟩ (eqin_ptr_ns w 9999 ht _)) (by simp [vok])
  · rename_i hx hy
    simp only [Option.some.injEq, Prod.mk.injEq] at he
    obtain ⟨rfl, rfl, rfl⟩ := he
    exact Done.pure r (fin _ _ false (by rw [hs x (by simp [Op.operands, Call.operands]), hx]; simp only [conc]; rfl) (by rw [hs y (by simp [Op.operands, Call.operands]), hy]; rfl) ⟨_, rfl⟩ ⟨_, rfl⟩ (eqin_ptr_sn w 9999 ht _)) (by simp [vok])
  · rename_i b o b' o' hx hy
    split at he
    · rename_i hbb
      subst hbb
      simp only [Option.some.injEq, Prod.mk.injEq] at he
      obtain ⟨rfl, rfl, rfl⟩ := he
      refine Done.pure r (fin _ _ (o == o') (by rw [hs x (by simp [Op.operands, Call.operands]), hx]; simp only [conc]; rfl) (by rw [hs y (by simp [Op.operands, Call.operands]), hy]; simp only [conc]; rfl) ⟨_, rfl⟩ ⟨_, rfl⟩ ?_) (by simp [vok])
      refine (eqin_ptr_ss w 9999 ht hi hsz _ _).trans ?_
      simp only [sameAddr, beq_self_eq_true, if_true, Sem.run_pure]
      congr 1
      by_cases e : o = o'
      · subst e; simp
      · have : ((⟨(μ b).blk, (μ b).shift + o, none⟩ : Addr) == ⟨(μ b).blk, (μ b).shift + o', none⟩) = false := by simp [e]
        rw [this]; simp [e]
    · rename_i hbb
      split at he
      case h_2 => cases he
      rename_i e1 cs1 e2 cs2 h1 h2
      simp only [Option.some.injEq, Prod.mk.injEq] at he
      obtain ⟨rfl, rfl, rfl⟩ := he
      refine Done.pure r (fin _ _ false (by rw [hs x (by simp [Op.operands, Call.operands]), hx]; simp only [conc]; rfl) (by rw [hs y (by simp [Op.operands, Call.operands]), hy]; simp only [conc]; rfl) ⟨_, rfl⟩ ⟨_, rfl⟩ ?_) (by simp [vok])
      have := run_sameAddr_ne (P := P) (o := (μ b).shift + o) (o' := (μ b').shift + o') (r.at_ _ _ h1) (r.at_ _ _ h2) (fun e => hbb (r.inj _ _ _ _ h1 h2 rfl e))
      exact (eqin_ptr_ss w 9999 ht hi hsz _ _).trans this
  · cases he

theorem sound_ieq (op : BinOp) (t yt : TypeId) (x y : Operand) (g : Bool) (ms : Array (String × TypeId)) (ht : P.underlying t = some (.interface ms)) (hg : negOf op = some g) :
    Sound P ⟨dst, .binOp op t x y yt, type, pos, after, guard⟩ (.ieq g (cx x) (cx y)) := by
  intro ρ a μ U h w n v rd eff hs ha r hn he
  simp only [aop] at he
  split at he
  · rename_i hx hy
    have hc : ∃ c, x = .const c ∨ y = .const c ∨ (∃ f, x = .func f) ∨ (∃ f, y = .func f) ∨ (∃ f, x = .global f) ∨ (∃ f, y = .global f) := by
      cases x with
      | const c => exact ⟨c, .inl rfl⟩
      | func f => exact ⟨.nilIface, .inr (.inr (.inl ⟨f, rfl⟩))⟩
      | global f => exact ⟨.nilIface, .inr (.inr (.inr (.inr (.inl ⟨f, rfl⟩))))⟩
      | tmp i =>
        cases y with
        | const c => exact ⟨c, .inr (.inl rfl)⟩
        | func f => exact ⟨.nilIface, .inr (.inr (.inr (.inl ⟨f, rfl⟩)))⟩
        | global f => exact ⟨.nilIface, .inr (.inr (.inr (.inr (.inr ⟨f, rfl⟩))))⟩
        | tmp j => simp [cx] at he
    have hv : v = .bool (true != g) ∧ rd = [] ∧ eff = .no := by
      split at he
      · simp only [Option.some.injEq, Prod.mk.injEq] at he; exact ⟨he.1.symm, he.2.1.symm, he.2.2.symm⟩
      · simp only [Option.some.injEq, Prod.mk.injEq] at he; exact ⟨he.1.symm, he.2.1.symm, he.2.2.symm⟩
      · cases he
    obtain ⟨rfl, rfl, rfl⟩ := hv
    refine Done.pure r (run_bin_of ?_) (by simp [vok])
    simp only [hs x (by simp [Op.operands, Call.operands]), hs y (by simp [Op.operands, Call.operands]), hx, hy, conc]
    refine run_eq_of hg (fun op => ?_) (eqin_if_nn w 9999 ht) rfl rfl
    obtain ⟨c, hc⟩ := hc
    rcases hc with rfl | rfl | ⟨f, rfl⟩ | ⟨f, rfl⟩ | ⟨f, rfl⟩ | ⟨f, rfl⟩
    · cases op <;> simp [eqGuard]
    · cases op <;> simp [eqGuard]
    · simp [cx, ev] at hx
    · simp [cx, ev] at hy
    · simp [cx, ev] at hx
    · simp [cx, ev] at hy
  · rename_i hx hy
    simp only [Option.some.injEq, Prod.mk.injEq] at he
    obtain ⟨rfl, rfl, rfl⟩ := he
    refine Done.pure r (run_bin_of ?_) (by simp [vok])
    simp only [hs x (by simp [Op.operands, Call.operands]), hs y (by simp [Op.operands, Call.operands]), hx, hy, conc]
    exact run_eq_of hg (fun op => by cases op <;> simp [eqGuard]) (eqin_if_ns w 9999 ht _ _) rfl rfl
  · rename_i hx hy
    simp only [Option.some.injEq, Prod.mk.injEq] at he
    obtain ⟨rfl, rfl, rfl⟩ := he
    refine Done.pure r (run_bin_of ?_) (by simp [vok])
    simp only [hs x (by simp [Op.operands, Call.operands]), hs y (by simp [Op.operands, Call.operands]), hx, hy, conc]
    exact run_eq_of hg (fun op => by cases op <;> simp [eqGuard]) (eqin_if_sn w 9999 ht _ _) rfl rfl
  · rename_i k b o k' b' o' hx hy
    split at he
    · rename_i hne
      simp only [Option.some.injEq, Prod.mk.injEq] at he
      obtain ⟨rfl, rfl, rfl⟩ := he
      refine Done.pure r (run_bin_of ?_) (by simp [vok])
      simp only [hs x (by simp [Op.operands, Call.operands]), hs y (by simp [Op.operands, Call.operands]), hx, hy, conc]
      exact run_eq_of hg (fun op => by cases op <;> simp [eqGuard]) (eqin_if_sd w 9999 ht _ _ _ _ hne) rfl rfl
    · rename_i hne
      have hne : k = k' := Classical.not_not.1 hne
      subst hne
      split at he
      case h_2 => cases he
      rename_i i e hi hu
      split at he
      case h_2 => cases he
      rename_i j hj
      split at he
      case isFalse => cases he
      rename_i hc
      split at he
      · rename_i hbb
        subst hbb
        simp only [Option.some.injEq, Prod.mk.injEq] at he
        obtain ⟨rfl, rfl, rfl⟩ := he
        refine Done.pure r (run_bin_of ?_) (by simp [vok])
        simp only [hs x (by simp [Op.operands, Call.operands]), hs y (by simp [Op.operands, Call.operands]), hx, hy, conc]
        refine run_eq_of hg (fun op => by cases op <;> simp [eqGuard]) (r := (o == o')) ?_ rfl rfl
        refine (eqin_if_ss w 9999 ht k _ _ hi hc.1).trans ((eqin_ptr_ss w 9998 hu hj hc.2 _ _).trans ?_)
        simp only [sameAddr, beq_self_eq_true, if_true, Sem.run_pure]
        congr 1
        by_cases e : o = o'
        · subst e; simp
        · have : ((⟨(μ b).blk, (μ b).shift + o, none⟩ : Addr) == ⟨(μ b).blk, (μ b).shift + o', none⟩) = false := by simp [e]
          rw [this]; simp [e]
      · rename_i hbb
        split at he
        case h_2 => cases he
        rename_i e1 cs1 e2 cs2 h1 h2
        simp only [Option.some.injEq, Prod.mk.injEq] at he
        obtain ⟨rfl, rfl, rfl⟩ := he
        refine Done.pure r (run_bin_of ?_) (by simp [vok])
        simp only [hs x (by simp [Op.operands, Call.operands]), hs y (by simp [Op.operands, Call.operands]), hx, hy, conc]
        refine run_eq_of hg (fun op => by cases op <;> simp [eqGuard]) (r := false) ?_ rfl rfl
        have := run_sameAddr_ne (P := P) (o := (μ b).shift + o) (o' := (μ b').shift + o') (r.at_ _ _ h1) (r.at_ _ _ h2) (fun e => hbb (r.inj _ _ _ _ h1 h2 rfl e))
        exact (eqin_if_ss w 9999 ht k _ _ hi hc.1).trans ((eqin_ptr_ss w 9998 hu hj hc.2 _ _).trans this)
  · cases he

theorem sound_seq (op : BinOp) (t yt : TypeId) (x y : Operand) (g : Bool) (e : TypeId) (ht : P.underlying t = some (.slice e)) (hg : negOf op = some g) :
    Sound P ⟨dst, .binOp op t x y yt, type, pos, after, guard⟩ (.seq g (cx x) (cx y)) := by
  intro ρ a μ U h w n v rd eff hs ha r hn he
  simp only [aop] at he
  split at he
  · rename_i hx hy
    simp only [Option.some.injEq, Prod.mk.injEq] at he
    obtain ⟨rfl, rfl, rfl⟩ := he
    refine Done.pure r (run_bin_of ?_) (by simp [vok])
    simp only [hs x (by simp [Op.operands, Call.operands]), hs y (by simp [Op.operands, Call.operands]), hx, hy, conc]
    exact run_eq_of hg (fun op => by cases op <;> simp [eqGuard]) (eqin_sl_nn w 9999 ht) rfl rfl
  · rename_i b o p l c hx hy
    simp only [Option.some.injEq, Prod.mk.injEq] at he
    obtain ⟨rfl, rfl, rfl⟩ := he
    refine Done.pure r (run_bin_of ?_) (by simp [vok])
    simp only [hs x (by simp [Op.operands, Call.operands]), hs y (by simp [Op.operands, Call.operands]), hx, hy]
    cases c with
    | none =>
      simp only [conc]
      exact run_eq_of hg (fun op => by cases op <;> simp [eqGuard]) (eqin_sl_ns w 9999 ht _ _ _) rfl rfl
    | some c =>
      simp only [conc]
      exact run_eq_of hg (fun op => by cases op <;> simp [eqGuard]) (eqin_sl_ns w 9999 ht _ _ _) rfl rfl
  · rename_i b o p l c hx hy
    simp only [Option.some.injEq, Prod.mk.injEq] at he
    obtain ⟨rfl, rfl, rfl⟩ := he
    refine Done.pure r (run_bin_of ?_) (by simp [vok])
    simp only [hs x (by simp [Op.operands, Call.operands]), hs y (by simp [Op.operands, Call.operands]), hx, hy]
    cases c with
    | none =>
      simp only [conc]
      exact run_eq_of hg (fun op => by cases op <;> simp [eqGuard]) (eqin_sl_sn w 9999 ht _ _ _) rfl rfl
    | some c =>
      simp only [conc]
      exact run_eq_of hg (fun op => by cases op <;> simp [eqGuard]) (eqin_sl_sn w 9999 ht _ _ _) rfl rfl
  · cases he

end
end Go.Eng
