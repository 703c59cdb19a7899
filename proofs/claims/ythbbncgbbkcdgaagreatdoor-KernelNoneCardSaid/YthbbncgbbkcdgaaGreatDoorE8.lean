/- Engine, part 8: the operations, continued. -/
import Derived.Test.YthbbncgbbkcdgaaGreatDoorE7
namespace Go.Eng
open Go

section
variable {P : Program} {dst : Option Tmp} {type : TypeId} {pos : String} {after : Array Edge} {guard : Option (Nat × Bool)}

theorem sound_aeq (op : BinOp) (t yt : TypeId) (x y : Operand) (g : Bool) (hw : aggOf P t = some true) (hq : P.eqGuardType P.depth t = false) (hf : flatT P 20 t = true) (hg : negOf op = some g) :
    Sound P ⟨dst, .binOp op t x y yt, type, pos, after, guard⟩ (.aeq g (P.cellsOf t) (cx x) (cx y)) := by
  intro ρ a μ U h w n v rd eff hs ha r hn he
  simp only [aop] at he
  split at he
  case h_2 => cases he
  rename_i p q hx hy
  split at he
  case isFalse => cases he
  rename_i hl
  simp only [Option.map_eq_some_iff, Prod.mk.injEq] at he
  obtain ⟨rr, hr, rfl, rfl, rfl⟩ := he
  refine Done.pure r (run_bin_of ?_) (by simp [vok])
  simp only [hs x (by simp [Op.operands, Call.operands]), hs y (by simp [Op.operands, Call.operands]), hx, hy, conc_agg]
  refine run_eq_of hg (fun op => run_eqGuard_agg w op t x y _ _ hq) ?_ rfl rfl
  exact flat_eq 20 t 10000 hf (by omega) w μ p q rr _ _ hl hr (by simp [ValOf, hw]) (by simp [ValOf, hw])

theorem sound_un (op : UnOp) (t : TypeId) (x : Operand) : Sound P ⟨dst, .unOp op t x, type, pos, after, guard⟩ (.un op (cx x)) := by
  intro ρ a μ U h w n v rd eff hs ha r hn he
  simp only [aop] at he
  split at he
  case h_3 => cases he
  all_goals
    rename_i hx
    simp only [Option.some.injEq, Prod.mk.injEq] at he
    obtain ⟨rfl, rfl, rfl⟩ := he
    exact Done.pure r (by simp [execOp, hs x (by simp [Op.operands, Call.operands]), hx, conc, Op.unary, Op.intArith]) (by simp [vok])

theorem sound_conv (s d : TypeId) (x : Operand) (k : IntKind) (hd : P.underlying d = some (.int k)) (hsrc : (P.underlying s).isSome = true) : Sound P ⟨dst, .convert s d x, type, pos, after, guard⟩ (.conv k (cx x)) := by
  intro ρ a μ U h w n v rd eff hs ha r hn he
  simp only [aop] at he
  split at he
  case h_2 => cases he
  rename_i k' m hx
  simp only [Option.some.injEq, Prod.mk.injEq] at he
  obtain ⟨rfl, rfl, rfl⟩ := he
  obtain ⟨ds, hds⟩ := Option.isSome_iff_exists.1 hsrc
  refine Done.pure r ?_ (by simp [vok])
  simp [execOp, hs x (by simp [Op.operands, Call.operands]), hx, conc, convert, run_underlying hd, run_underlying hds, Conv.intToInt]

theorem sound_mki (t : TypeId) (x : Operand) (d : TypeDesc) (hu : P.underlying t = some d) (hd : ∀ ms, d ≠ .interface ms) : Sound P ⟨dst, .makeInterface t x, type, pos, after, guard⟩ (.mki t (cx x)) := by
  intro ρ a μ U h w n v rd eff hs ha r hn he
  simp only [aop, Option.some.injEq, Prod.mk.injEq] at he
  obtain ⟨rfl, rfl, rfl⟩ := he
  refine Done.pure r ?_ (by simp only [vok]; exact ha x (by simp [Op.operands, Call.operands]))
  have : (Instr.makeInterface t (ρ x)).run P w = .ok (.iface t (ρ x)) w := by
    cases d <;> first
      | exact absurd rfl (hd _)
      | simp [Instr.makeInterface, run_underlying hu]
  rw [hs x (by simp [Op.operands, Call.operands])] at this
  simp [execOp, this, hs x (by simp [Op.operands, Call.operands]), conc]

theorem map_says {ρ : Operand → Value} {μ : Map} {a : List AV} {l : List Operand} (hs : ∀ x ∈ l, ρ x = conc μ (ev a (cx x))) : l.map ρ = (l.map cx).map (fun x => conc μ (ev a x)) := by
  rw [List.map_map]; exact List.map_congr_left fun x hx => hs x hx

theorem sound_mkf (f : Fn) (p c : Array Operand) : Sound P ⟨dst, .makeFunc f p c, type, pos, after, guard⟩ (.mkf f (p.toList.map cx) (c.toList.map cx)) := by
  intro ρ a μ U h w n v rd eff hs ha r hn he
  simp only [aop, Option.some.injEq, Prod.mk.injEq] at he
  obtain ⟨rfl, rfl, rfl⟩ := he
  refine Done.pure r ?_ ?_
  · have h1 : ∀ q : Array Operand, (∀ x ∈ q, x ∈ p ∨ x ∈ c) → q.map ρ = (((q.toList.map cx).map (ev a)).map (conc μ)).toArray := fun q hq => by
      apply Array.ext'
      rw [Array.toList_map, map_says (μ := μ) (a := a) fun x hx => hs x (by simpa [Op.operands] using hq x (Array.mem_toList_iff.1 hx))]
      simp [List.map_map, Function.comp_def]
    simp [execOp, Instr.makeFunc, conc, concL_eq, h1 p (fun _ h => .inl h), h1 c (fun _ h => .inr h)]
  · simp only [vok]
    refine ⟨vokL_iff.2 fun u hu => ?_, vokL_iff.2 fun u hu => ?_⟩
    · simp only [List.map_map, List.mem_map, Function.comp] at hu; obtain ⟨x, hx, rfl⟩ := hu; exact ha x (by simp [Op.operands, Array.mem_toList_iff.1 hx])
    · simp only [List.map_map, List.mem_map, Function.comp] at hu; obtain ⟨x, hx, rfl⟩ := hu; exact ha x (by simp [Op.operands, Array.mem_toList_iff.1 hx])

theorem sound_fa (t : TypeId) (x : Operand) (fi : Nat) (fs : Array Field) (f : Field) (i : TypeInfo) (hu : P.underlying t = some (.struct fs)) (hf : fs[fi]? = some f) (hi : P.info? f.type = some i) (hsz : i.size ≠ 0) :
    Sound P ⟨dst, .fieldAddr t x fi, type, pos, after, guard⟩ (.fa f.offset (cx x)) := by
  intro ρ a μ U h w n v rd eff hs ha r hn he
  have hv := ha x (by simp [Op.operands, Call.operands])
  simp only [aop] at he
  split at he
  case h_2 => cases he
  rename_i b o hx
  simp only [Option.some.injEq, Prod.mk.injEq] at he
  obtain ⟨rfl, rfl, rfl⟩ := he
  rw [hx] at hv
  refine Done.pure r ?_ (by simpa [vok] using hv)
  simp [execOp, Instr.fieldAt, run_underlying hu, hf, Instr.sureAddr, hs x (by simp [Op.operands, Call.operands]), hx, conc, fieldPlace, sizeOf, typeInfo, hi, hsz, addr_add, Nat.add_assoc]

theorem sound_fld (t : TypeId) (x : Operand) (fi : Nat) (fs : Array Field) (f : Field) (g : Bool) (i : TypeInfo) (hu : P.underlying t = some (.struct fs)) (hf : fs[fi]? = some f) (hg : aggOf P f.type = some g) (hi : P.info? f.type = some i) :
    Sound P ⟨dst, .field t x fi, type, pos, after, guard⟩ (.fld g f.offset i.size (cx x)) := by
  intro ρ a μ U h w n v rd eff hs ha r hn he
  have hv := ha x (by simp [Op.operands, Call.operands])
  simp only [aop] at he
  split at he
  case h_2 => cases he
  rename_i cs hx
  simp only [Option.map_eq_some_iff, Prod.mk.injEq] at he
  obtain ⟨v', hv', rfl, rfl, rfl⟩ := he
  rw [hx] at hv
  simp only [vok] at hv
  refine Done.pure r ?_ ?_
  · simp [execOp, Instr.field, run_underlying hu, hf, asAgg, hs x (by simp [Op.operands, Call.operands]), hx, conc_agg, run_part hg hi hv']
  · unfold partA at hv'
    cases g
    · simp only [Bool.false_eq_true, if_false] at hv'; exact vokL_iff.1 hv _ (List.mem_of_getElem? hv')
    · simp only [if_true] at hv'
      split at hv'
      · cases hv'; simp only [vok]; exact vokL_iff.2 fun u hu => vokL_iff.1 hv u (List.mem_of_mem_drop (List.mem_of_mem_take hu))
      · cases hv'

theorem vok_partA {U : Nat → Prop} {μ : Map} {g : Bool} {cs : List AV} {off k : Nat} {v : AV} (h : partA g cs off k = some v) (hc : ∀ u ∈ cs, vok U μ u) : vok U μ v := by
  unfold partA at h
  cases g
  · simp only [Bool.false_eq_true, if_false] at h; exact hc _ (List.mem_of_getElem? h)
  · simp only [if_true] at h
    split at h
    · cases h; simp only [vok]; exact vokL_iff.2 fun u hu => hc u (List.mem_of_mem_drop (List.mem_of_mem_take hu))
    · cases h

theorem sound_iaA (t : TypeId) (x y : Operand) (len : Nat) (e : TypeId) (i : TypeInfo) (hu : P.underlying t = some (.array len e)) (hi : P.info? e = some i) :
    Sound P ⟨dst, .indexAddr t x y, type, pos, after, guard⟩ (.iaA len i.size (cx x) (cx y)) := by
  intro ρ a μ U h w n v rd eff hs ha r hn he
  have hv := ha x (by simp [Op.operands, Call.operands])
  simp only [aop] at he
  split at he
  case h_2 => cases he
  rename_i b o k j hx hy
  split at he
  case isFalse => cases he
  rename_i hj
  simp only [Option.some.injEq, Prod.mk.injEq] at he
  obtain ⟨rfl, rfl, rfl⟩ := he
  rw [hx] at hv
  refine Done.pure r ?_ (by simpa [vok] using hv)
  have h1 : ρ x = .pointer (some ⟨(μ b).blk, (μ b).shift + o, none⟩) := by rw [hs x (by simp [Op.operands, Call.operands]), hx]; simp [conc]
  have h2 : ρ y = .int k j := by rw [hs y (by simp [Op.operands, Call.operands]), hy]; simp [conc]
  simp [execOp, Instr.indexAt, run_underlying hu, Instr.sureAddr, h1, h2, asIntOf, hj.1, hj.2, sizeOf, typeInfo, hi, addr_add, conc, Nat.add_assoc]

theorem sound_iaS (t : TypeId) (x y : Operand) (e : TypeId) (i : TypeInfo) (hu : P.underlying t = some (.slice e)) (hi : P.info? e = some i) :
    Sound P ⟨dst, .indexAddr t x y, type, pos, after, guard⟩ (.iaS i.size (cx x) (cx y)) := by
  intro ρ a μ U h w n v rd eff hs ha r hn he
  have hv := ha x (by simp [Op.operands, Call.operands])
  simp only [aop] at he
  split at he
  case h_2 => cases he
  rename_i b o p l c k j hx hy
  split at he
  case isFalse => cases he
  rename_i hj
  simp only [Option.some.injEq, Prod.mk.injEq] at he
  obtain ⟨rfl, rfl, rfl⟩ := he
  obtain ⟨rfl, hj1, hj2⟩ := hj
  rw [hx] at hv
  refine Done.pure r ?_ (by simp only [vok] at hv ⊢; exact hv.1)
  have h2 : ρ y = .int k j := by rw [hs y (by simp [Op.operands, Call.operands]), hy]; simp [conc]
  cases c with
  | some c =>
    have h1 : ρ x = .slice (some ⟨(μ b).blk, (μ b).shift + o, none⟩) l c := by rw [hs x (by simp [Op.operands, Call.operands]), hx]; simp [conc]
    simp [execOp, Instr.indexAt, run_underlying hu, h1, h2, asIntOf, hj1, hj2, sizeOf, typeInfo, hi, addr_add, conc, Nat.add_assoc]
  | none =>
    have h1 : ρ x = .slice (some ⟨(μ b).blk, (μ b).shift + o, none⟩) l ((μ b).rest o) := by rw [hs x (by simp [Op.operands, Call.operands]), hx]; simp [conc]
    simp [execOp, Instr.indexAt, run_underlying hu, h1, h2, asIntOf, hj1, hj2, sizeOf, typeInfo, hi, addr_add, conc, Nat.add_assoc]

theorem sound_ixA (t : TypeId) (x y : Operand) (len : Nat) (e : TypeId) (g : Bool) (i : TypeInfo) (hu : P.underlying t = some (.array len e)) (hg : aggOf P e = some g) (hi : P.info? e = some i) :
    Sound P ⟨dst, .index t x y, type, pos, after, guard⟩ (.ixA len i.size g (cx x) (cx y)) := by
  intro ρ a μ U h w n v rd eff hs ha r hn he
  have hv := ha x (by simp [Op.operands, Call.operands])
  simp only [aop] at he
  split at he
  case h_2 => cases he
  rename_i cs k j hx hy
  split at he
  case isFalse => cases he
  rename_i hj
  simp only [Option.map_eq_some_iff, Prod.mk.injEq] at he
  obtain ⟨v', hv', rfl, rfl, rfl⟩ := he
  rw [hx] at hv
  simp only [vok] at hv
  refine Done.pure r ?_ (vok_partA hv' (vokL_iff.1 hv))
  have h1 : ρ x = .agg (cs.map (conc μ)).toArray := by rw [hs x (by simp [Op.operands, Call.operands]), hx, conc_agg]
  have h2 : ρ y = .int k j := by rw [hs y (by simp [Op.operands, Call.operands]), hy]; simp [conc]
  simp [execOp, Instr.index, run_underlying hu, h1, h2, asIntOf, hj.1, hj.2, sizeOf, typeInfo, hi, run_part hg hi hv']

theorem sound_ixS (t : TypeId) (x y : Operand) (hu : P.underlying t = some .string) : Sound P ⟨dst, .index t x y, type, pos, after, guard⟩ (.ixS (cx x) (cx y)) := by
  intro ρ a μ U h w n v rd eff hs ha r hn he
  simp only [aop] at he
  split at he
  case h_2 => cases he
  rename_i s k j hx hy
  split at he
  case isFalse => cases he
  rename_i hj
  simp only [Option.map_eq_some_iff, Prod.mk.injEq] at he
  obtain ⟨c, hc, rfl, rfl, rfl⟩ := he
  refine Done.pure r ?_ (by simp [vok])
  have h1 : ρ x = .string s := by rw [hs x (by simp [Op.operands, Call.operands]), hx]; simp [conc]
  have h2 : ρ y = .int k j := by rw [hs y (by simp [Op.operands, Call.operands]), hy]; simp [conc]
  simp [execOp, Instr.index, run_underlying hu, h1, h2, asIntOf, hj, hc, conc]

theorem sound_ext (x : Operand) (j : Nat) : Sound P ⟨dst, .extract x j, type, pos, after, guard⟩ (.ext (cx x) j) := by
  intro ρ a μ U h w n v rd eff hs ha r hn he
  have hv := ha x (by simp [Op.operands, Call.operands])
  simp only [aop] at he
  split at he
  case h_2 => cases he
  rename_i vs hx
  simp only [Option.map_eq_some_iff, Prod.mk.injEq] at he
  obtain ⟨v', hv', rfl, rfl, rfl⟩ := he
  rw [hx] at hv
  simp only [vok] at hv
  refine Done.pure r ?_ (vokL_iff.1 hv _ (List.mem_of_getElem? hv'))
  have h1 : ρ x = .tuple (vs.map (conc μ)).toArray := by rw [hs x (by simp [Op.operands, Call.operands]), hx, conc_tup]
  simp [execOp, Instr.extract, h1, hv']

theorem sound_taC (x : Operand) (xt t : TypeId) (comma : Bool) (z : Value) (i : TypeInfo) (d : TypeDesc) (hu : P.underlying t = some d) (hd : ∀ ms, d ≠ .interface ms) (hi : P.info? t = some i) (hz : i.zero = some z) :
    Sound P ⟨dst, .typeAssert x xt t comma, type, pos, after, guard⟩ (.taC comma (cx x) t (ofValue z)) := by
  intro ρ a μ U h w n v rd eff hs ha r hn he
  have hv := ha x (by simp [Op.operands, Call.operands])
  have hzr : (zeroValue t).run P w = .ok z w := by simp [zeroValue, typeInfo, hi, hz]
  simp only [aop] at he
  split at he
  · rename_i t' u hx
    rw [hx] at hv
    simp only [vok] at hv
    have h1 : ρ x = .iface t' (conc μ u) := by rw [hs x (by simp [Op.operands, Call.operands]), hx]; simp [conc]
    split at he
    · rename_i htt
      subst htt
      cases he
      refine Done.pure r ?_ ?_
      · cases comma <;> (cases d <;> first | exact absurd rfl (hd _) | simp [execOp, Instr.typeAssert, run_underlying hu, h1, conc, concL])
      · cases comma <;> simp [vok, vokL, hv]
    · rename_i htt
      split at he
      · rename_i hc
        cases he
        subst hc
        refine Done.pure r ?_ ?_
        · cases d <;> first | exact absurd rfl (hd _) | simp [execOp, Instr.typeAssert, run_underlying hu, h1, conc, concL, htt, hzr, conc_ofValue]
        · simp [vok, vokL, vok_ofValue]
      · cases he
  · rename_i hx
    have h1 : ρ x = .nilIface := by rw [hs x (by simp [Op.operands, Call.operands]), hx]; simp [conc]
    split at he
    · rename_i hc
      cases he
      subst hc
      refine Done.pure r ?_ ?_
      · cases d <;> first | exact absurd rfl (hd _) | simp [execOp, Instr.typeAssert, run_underlying hu, h1, conc, concL, hzr, conc_ofValue]
      · simp [vok, vokL, vok_ofValue]
    · cases he
  · cases he

theorem sound_taI (x : Operand) (xt t : TypeId) (comma : Bool) (z : Value) (i : TypeInfo) (want : Array (String × TypeId)) (hu : P.underlying t = some (.interface want)) (hi : P.info? t = some i) (hz : i.zero = some z) :
    Sound P ⟨dst, .typeAssert x xt t comma, type, pos, after, guard⟩ (.taI comma (cx x) want (ofValue z)) := by
  intro ρ a μ U h w n v rd eff hs ha r hn he
  have hv := ha x (by simp [Op.operands, Call.operands])
  have hzr : (zeroValue t).run P w = .ok z w := by simp [zeroValue, typeInfo, hi, hz]
  simp only [aop] at he
  split at he
  · rename_i t' u hx
    rw [hx] at hv
    have h1 : ρ x = .iface t' (conc μ u) := by rw [hs x (by simp [Op.operands, Call.operands]), hx]; simp [conc]
    simp only [Option.bind_eq_some_iff] at he
    obtain ⟨i', hi', he⟩ := he
    split at he
    · rename_i hm
      cases he
      refine Done.pure r ?_ ?_
      · cases comma <;> simp [execOp, Instr.typeAssert, run_underlying hu, h1, conc, concL, typeInfo, hi', hm]
      · cases comma <;> simp only [vok, vokL, Bool.false_eq_true, if_false, if_true, and_true] <;> simpa [vok] using hv
    · rename_i m hm
      split at he
      · rename_i hc
        cases he
        subst hc
        refine Done.pure r ?_ ?_
        · simp [execOp, Instr.typeAssert, run_underlying hu, h1, conc, concL, typeInfo, hi', hm, hzr, conc_ofValue]
        · simp [vok, vokL, vok_ofValue]
      · cases he
  · rename_i hx
    have h1 : ρ x = .nilIface := by rw [hs x (by simp [Op.operands, Call.operands]), hx]; simp [conc]
    split at he
    · rename_i hc
      cases he
      subst hc
      refine Done.pure r ?_ ?_
      · simp [execOp, Instr.typeAssert, run_underlying hu, h1, conc, concL, hzr, conc_ofValue]
      · simp [vok, vokL, vok_ofValue]
    · cases he
  · cases he

end
end Go.Eng
