/- Engine, part 13: clear; every resolved operation is sound; an operation looks at what it names alone. -/
import Derived.Test.YthbbncgbbkcdgaaGreatDoorE12
namespace Go.Eng
open Go

section
variable {P : Program} {dst : Option Tmp} {type : TypeId} {pos : String} {after : Array Edge} {guard : Option (Nat × Bool)}

theorem sound_clr (t : TypeId) (at_ : Array TypeId) (x : Operand) (e : TypeId) (i : TypeInfo) (z : List AV) (h0 : at_[0]? = some t) (hu : P.underlying t = some (.slice e)) (hi : P.info? e = some i) (hz : zeroCellsOf P e = some z) (hzl : z.length = i.size) (hs0 : i.size ≠ 0) :
    Sound P ⟨dst, .call { callee := .builtin .clear, args := #[x], argTypes := at_ }, type, pos, after, guard⟩ (.clr i.size z (cx x)) := by
  intro ρ a μ U h w n v rd eff hs ha r hn he
  have hxx : ρ x = conc μ (ev a (cx x)) := hs x (by simp [Op.operands, Call.operands])
  obtain ⟨i', zv, hi', hzz, hzc, hzo⟩ := zero_of hz
  obtain rfl : i' = i := by rw [hi] at hi'; exact (Option.some.inj hi').symm
  have lift : ∀ (w' : World), (Builtin.clear_ at_ type #[ρ x]).run P w = .ok (.tuple #[]) w' →
      (execOp ρ ⟨dst, .call { callee := .builtin .clear, args := #[x], argTypes := at_ }, type, pos, after, guard⟩).run P w = .ok (.value (.tuple #[])) w' := by
    intro w' hr
    simp [execOp, resolve, invoke, builtin, hr]
  have hun : ∀ μ', conc μ' undefA = .tuple #[] := fun μ' => by simp [undefA, conc, concL]
  simp only [aop] at he
  generalize ev a (cx x) = xv at he hxx
  split at he
  · simp only [Option.some.injEq, Prod.mk.injEq] at he
    obtain ⟨rfl, rfl, rfl⟩ := he
    refine Done.pure' r (lift w ?_) (hun μ) (by simp [undefA, vok, vokL])
    simp [Builtin.clear_, h0, hxx, conc, run_underlying hu]
  · rename_i b off p len cap
    split at he
    · rename_i hl0
      subst hl0
      simp only [Option.some.injEq, Prod.mk.injEq] at he
      obtain ⟨rfl, rfl, rfl⟩ := he
      refine Done.pure' r (lift w ?_) (hun μ) (by simp [undefA, vok, vokL])
      cases cap <;> simp [Builtin.clear_, h0, hxx, conc, run_underlying hu]
    · rename_i hl0
      split at he
      · cases he
      rename_i hp
      have hp : p = 0 := by omega
      subst hp
      split at he
      case h_2 => cases he
      rename_i e' cs hb
      split at he
      case isFalse => cases he
      rename_i hc
      obtain ⟨hc1, hc2, hc3⟩ := hc
      simp only [Option.some.injEq, Prod.mk.injEq] at he
      obtain ⟨rfl, rfl, rfl⟩ := he
      obtain ⟨c, ty, h1, h2, h3, h5, h4⟩ := r.at_ b _ hb
      have hok : ∀ v ∈ cs, vok U μ v := r.ok b _ hb
      have hlr : (repl z len).length = len * i'.size := by rw [length_repl, hzl]
      have hx' : ∃ c', ρ x = .slice (some ⟨(μ b).blk, (μ b).shift + off, none⟩) len c' := by
        rw [hxx]
        cases cap with
        | some c' => exact ⟨c', by simp only [conc]⟩
        | none => exact ⟨(μ b).rest off, by simp [conc]⟩
      obtain ⟨c', hx'⟩ := hx'
      have hst := run_storeCells_at P (μ b).blk ((μ b).shift + off) ty ((repl z len).map (conc μ)) 0 c w h1 (by simp [hlr]; omega)
        (fun u hu => by obtain ⟨u', hu', rfl⟩ := List.mem_map.1 hu; exact one_conc (List.all_eq_true.1 hc3 u' (mem_repl hu')))
      simp only [Nat.add_zero, List.length_map] at hst
      have hzcells := zeroCells_conc (z := z) (by omega) len μ (hzc μ)
      have hzr : (zeroValue e).run P w = .ok zv w := by simp [zeroValue, typeInfo, hi, hzz]
      refine ⟨w.setRow (μ b).blk (c.toList.take ((μ b).shift + off) ++ (repl z len).map (conc μ) ++ c.toList.drop ((μ b).shift + off + (repl z len).length)).toArray, μ, .inl ((lift _ ?_).trans (by rw [hun μ])), ?_, ?_, by simp [undefA, vok, vokL]⟩
      · obtain ⟨len', rfl⟩ : ∃ l, len = l + 1 := ⟨len - 1, by omega⟩
        have hst' := hst
        rw [show (repl z (len' + 1)).map (conc μ) = (Builtin.zeroCells zv.cells (len' + 1)).toList by rw [hzcells]] at hst' ⊢
        simp only [List.append_assoc] at hst' ⊢
        simp [Builtin.clear_, h0, hx', run_underlying hu, hzr, hst']
      · simp only [applyEff, hb]
        refine r.set hb rfl (BlkAt.write h1 h2 h3 h5 h4 (by omega)) ?_ fun B hB => setRow_other w _ B _ hB
        intro u hu
        rcases mem_splice hu with hu | hu
        · exact hok u hu
        · exact hzo U μ u (mem_repl hu)
      · simp only [applyEff, hb]
        exact Ext.set hb rfl rfl (by simp [World.setRow]) (fun B hB => setRow_other w _ B _ hB) rfl rfl rfl
  · cases he

/-- **Every resolved operation is sound.** -/
theorem cop_sound {o : Oper} {ro : ROp} (h : cop P o.type o.op = some ro) : Sound P o ro := by
  obtain ⟨dst, op, type, pos, after, guard⟩ := o
  simp only at h
  cases op with
  | move x => simp only [cop, Option.some.injEq] at h; subst h; exact sound_mv x
  | assign x => simp only [cop, Option.some.injEq] at h; subst h; exact sound_assign x
  | pick c a b => simp only [cop, Option.some.injEq] at h; subst h; exact sound_pick c a b
  | alloc e => simp only [cop, Option.map_eq_some_iff] at h; obtain ⟨z, hz, rfl⟩ := h; exact sound_new e z hz
  | box e x => simp only [cop, Option.some.injEq] at h; subst h; exact sound_box e x
  | build t ps =>
    simp only [cop, Option.bind_eq_bind, Option.bind_eq_some_iff] at h
    obtain ⟨z, hz, h⟩ := h
    split at h
    · rename_i fs hu
      simp only [Option.bind_eq_some_iff] at h
      obtain ⟨qs, hq, h⟩ := h
      split at h
      · rename_i hall; simp only [Option.some.injEq] at h; subst h; exact sound_buildS t ps z fs qs hz hu hq hall
      · cases h
    · rename_i len e hu
      simp only [Option.bind_eq_some_iff, Option.some.injEq] at h
      obtain ⟨i, hi, rfl⟩ := h
      exact sound_buildA t ps z len e i hz hu hi
    · cases h
  | buildSlice t len ps =>
    simp only [cop] at h
    split at h
    case h_2 => cases h
    rename_i e hu
    simp only [Option.bind_eq_bind, Option.bind_eq_some_iff] at h
    obtain ⟨i, hi, z, hz, h⟩ := h
    split at h
    case isFalse => cases h
    rename_i hc
    simp only [Option.some.injEq] at h; subst h
    exact sound_bsl t len ps e i z hu hi hz hc.1 hc.2.1 hc.2.2
  | load t x =>
    simp only [cop, Option.bind_eq_bind, Option.bind_eq_some_iff, Option.some.injEq] at h
    obtain ⟨g, hg, i, hi, rfl⟩ := h
    exact sound_ld t x g i hg hi
  | store t x v =>
    simp only [cop, Option.bind_eq_bind, Option.bind_eq_some_iff, Option.some.injEq] at h
    obtain ⟨i, hi, rfl⟩ := h
    exact sound_st t x v i hi
  | nilCheck x => simp only [cop, Option.some.injEq] at h; subst h; exact sound_nck x
  | binOp op t x y yt =>
    simp only [cop] at h
    split at h
    · simp only [Option.some.injEq] at h; subst h; exact sound_bin op t yt x y
    · rename_i hu; simp only [Option.map_eq_some_iff] at h; obtain ⟨g, hg, rfl⟩ := h; exact sound_beq op t yt x y g hu hg
    · simp only [Option.some.injEq] at h; subst h; exact sound_sbin op t yt x y
    · rename_i e hu
      simp only [Option.bind_eq_bind, Option.bind_eq_some_iff] at h
      obtain ⟨g, hg, i, hi, h⟩ := h
      split at h
      · rename_i hsz; simp only [Option.some.injEq] at h; subst h; exact sound_peq op t yt x y g e i hu hi hsz hg
      · cases h
    · rename_i ms hu; simp only [Option.map_eq_some_iff] at h; obtain ⟨g, hg, rfl⟩ := h; exact sound_ieq op t yt x y g ms hu hg
    · rename_i fs hu
      simp only [Option.bind_eq_bind, Option.bind_eq_some_iff] at h
      obtain ⟨g, hg, h⟩ := h
      split at h
      · rename_i hc
        simp only [Bool.and_eq_true, Bool.not_eq_true'] at hc
        simp only [Option.some.injEq] at h; subst h
        exact sound_aeq op t yt x y g (by simp [aggOf, hu]) hc.1 hc.2 hg
      · cases h
    · rename_i len e hu
      simp only [Option.bind_eq_bind, Option.bind_eq_some_iff] at h
      obtain ⟨g, hg, h⟩ := h
      split at h
      · rename_i hc
        simp only [Bool.and_eq_true, Bool.not_eq_true'] at hc
        simp only [Option.some.injEq] at h; subst h
        exact sound_aeq op t yt x y g (by simp [aggOf, hu]) hc.1 hc.2 hg
      · cases h
    · rename_i e hu; simp only [Option.map_eq_some_iff] at h; obtain ⟨g, hg, rfl⟩ := h; exact sound_seq op t yt x y g e hu hg
    · cases h
  | unOp op t x => simp only [cop, Option.some.injEq] at h; subst h; exact sound_un op t x
  | convert s d x =>
    simp only [cop] at h
    split at h
    · rename_i k d' hd hs
      simp only [Option.some.injEq] at h; subst h
      exact sound_conv s d x k hd (by rw [hs]; rfl)
    · cases h
  | makeInterface t x =>
    simp only [cop] at h
    split at h
    · cases h
    · cases h
    · rename_i h1 h2
      simp only [Option.some.injEq] at h; subst h
      cases hu : P.underlying t with
      | none => exact absurd hu h2
      | some d => exact sound_mki t x d hu fun ms e => h1 ms (by rw [hu, e])
  | makeFunc f p c => simp only [cop, Option.some.injEq] at h; subst h; exact sound_mkf f p c
  | makeSlice t l c =>
    simp only [cop] at h
    split at h
    case h_2 => cases h
    rename_i e hu
    simp only [Option.bind_eq_bind, Option.bind_eq_some_iff] at h
    obtain ⟨i, hi, z, hz, h⟩ := h
    split at h
    · rename_i hs; simp only [Option.some.injEq] at h; subst h; exact sound_mks t l c e i z hu hi hz hs
    · cases h
  | slice t x lo hi mx =>
    simp only [cop] at h
    split at h
    case h_3 => cases h
    · rename_i e hu
      simp only [Option.bind_eq_bind, Option.bind_eq_some_iff] at h
      obtain ⟨i, hi', h⟩ := h
      split at h
      · cases h
      · rename_i hs; simp only [Option.some.injEq] at h; subst h; exact sound_slc t x lo hi mx e i hu hi' hs
    · rename_i hu
      split at h
      case isFalse => cases h
      rename_i hm
      cases mx with
      | some m => simp at hm
      | none => simp only [Option.some.injEq] at h; subst h; exact sound_slcS t x lo hi hu
  | fieldAddr t x f =>
    simp only [cop] at h
    split at h
    case h_2 => cases h
    rename_i fs hu
    simp only [Option.bind_eq_bind, Option.bind_eq_some_iff] at h
    obtain ⟨fl, hf, i, hi, h⟩ := h
    split at h
    · rename_i hs; simp only [Option.some.injEq] at h; subst h; exact sound_fa t x f fs fl i hu hf hi hs
    · cases h
  | field t x f =>
    simp only [cop] at h
    split at h
    case h_2 => cases h
    rename_i fs hu
    simp only [Option.bind_eq_bind, Option.bind_eq_some_iff, Option.some.injEq] at h
    obtain ⟨fl, hf, g, hg, i, hi, rfl⟩ := h
    exact sound_fld t x f fs fl g i hu hf hg hi
  | indexAddr t x y =>
    simp only [cop] at h
    split at h
    · rename_i len e hu
      simp only [Option.bind_eq_bind, Option.bind_eq_some_iff, Option.some.injEq] at h
      obtain ⟨i, hi, rfl⟩ := h
      exact sound_iaA t x y len e i hu hi
    · rename_i e hu
      simp only [Option.bind_eq_bind, Option.bind_eq_some_iff, Option.some.injEq] at h
      obtain ⟨i, hi, rfl⟩ := h
      exact sound_iaS t x y e i hu hi
    · cases h
  | index t x y =>
    simp only [cop] at h
    split at h
    · rename_i len e hu
      simp only [Option.bind_eq_bind, Option.bind_eq_some_iff, Option.some.injEq] at h
      obtain ⟨g, hg, i, hi, rfl⟩ := h
      exact sound_ixA t x y len e g i hu hg hi
    · rename_i hu
      simp only [Option.some.injEq] at h; subst h
      exact sound_ixS t x y hu
    · cases h
  | typeAssert x xt t comma =>
    simp only [cop, Option.bind_eq_bind, Option.bind_eq_some_iff] at h
    obtain ⟨i, hi, z, hz, h⟩ := h
    split at h
    · rename_i want hu; simp only [Option.some.injEq] at h; subst h; exact sound_taI x xt t comma z i want hu hi hz
    · rename_i d hd hu; simp only [Option.some.injEq] at h; subst h; exact sound_taC x xt t comma z i d hu (fun ms e => hd ms (by rw [e])) hi hz
    · cases h
  | extract x j => simp only [cop, Option.some.injEq] at h; subst h; exact sound_ext x j
  | call c =>
    obtain ⟨callee, args, argTypes⟩ := c
    simp only [cop] at h
    split at h
    · simp only [Option.some.injEq] at h; subst h; intro ρ a μ U hh w n v rd eff hs ha r hn he; simp [aop] at he
    · simp only [Option.some.injEq] at h; subst h; intro ρ a μ U hh w n v rd eff hs ha r hn he; simp [aop] at he
    · simp only [Option.some.injEq] at h; subst h; intro ρ a μ U hh w n v rd eff hs ha r hn he; simp [aop] at he
    · split at h
      · rename_i t x h0 h1
        have hargs : args = #[x] := by apply Array.ext'; exact h1
        subst hargs
        split at h
        · rename_i e hu; simp only [Option.some.injEq] at h; subst h; exact sound_len t argTypes x e h0 hu
        · rename_i hu; simp only [Option.some.injEq] at h; subst h; exact sound_lenStr t argTypes x h0 hu
        · rename_i len e hu; simp only [Option.some.injEq] at h; subst h; exact sound_lenArr t argTypes x len e h0 hu
        · cases h
      · rename_i t x h0 h1
        have hargs : args = #[x] := by apply Array.ext'; exact h1
        subst hargs
        split at h
        · rename_i e hu; simp only [Option.some.injEq] at h; subst h; exact sound_cap t argTypes x e h0 hu
        · cases h
      · rename_i t s x h0 h1
        have hargs : args = #[s, x] := by apply Array.ext'; exact h1
        subst hargs
        split at h
        case h_2 => cases h
        rename_i e hu
        simp only [Option.bind_eq_bind, Option.bind_eq_some_iff] at h
        obtain ⟨i, hi, z, hz, h⟩ := h
        split at h
        case isFalse => cases h
        rename_i hc
        simp only [Option.some.injEq] at h; subst h
        obtain ⟨rfl, hc1, hc2⟩ := hc
        exact sound_app t s x e i z hu hi hz hc1 hc2
      · rename_i t x h0 h1
        have hargs : args = #[x] := by apply Array.ext'; exact h1
        subst hargs
        split at h
        case h_2 => cases h
        rename_i e hu
        simp only [Option.bind_eq_bind, Option.bind_eq_some_iff] at h
        obtain ⟨i, hi, z, hz, h⟩ := h
        split at h
        case isFalse => cases h
        rename_i hc
        simp only [Option.some.injEq] at h; subst h
        exact sound_clr t argTypes x e i z h0 hu hi hz hc.1 hc.2
      · simp only [Option.some.injEq] at h; subst h; exact sound_mx argTypes args
      · simp only [Option.some.injEq] at h; subst h; exact sound_mn argTypes args
      · cases h
  | _ => simp [cop] at h

end
end Go.Eng
