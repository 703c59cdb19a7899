/- Engine, part 12: append and clear. -/
import Derived.Test.YthbbncgbbkcdgaaGreatDoorT4
import Derived.Laws.AppendOwn
set_option linter.unusedSimpArgs false
set_option linter.unusedVariables false
set_option linter.unnecessarySimpa false
namespace Go.Eng
open Go

section
variable {P : Program} {dst : Option Tmp} {type : TypeId} {pos : String} {after : Array Edge} {guard : Option (Nat × Bool)}

theorem run_append_zero {t ty e : TypeId} {i : TypeInfo} (ht : P.underlying t = some (.slice e)) (hi : P.info? e = some i) (ba xa : Option Addr) (l c xc : Nat) (hl : l ≤ c) (hn : ba = none → l = 0) (w : World) :
    (Builtin.append_ #[t, t] ty #[.slice ba l c, .slice xa 0 xc]).run P w = .ok (.slice ba l c) w := by
  cases ba with
  | none =>
    cases xa <;> simp [Builtin.append_, run_underlying ht, sizeOf, typeInfo, hi, Builtin.lenOf, Builtin.firstCells, loadCells, loadCellsFrom, hl]
  | some b =>
    cases xa <;> simp [Builtin.append_, run_underlying ht, sizeOf, typeInfo, hi, Builtin.lenOf, Builtin.firstCells, loadCells, loadCellsFrom, hl, storeCells]

theorem run_append_inplace {t ty e : TypeId} {i : TypeInfo} (ht : P.underlying t = some (.slice e)) (hi : P.info? e = some i) (w : World)
    (g o sLen sCap : Nat) (cur : Array Value) (ct : TypeId) (hg : w.heap[g]? = some (.cells cur ct (0, 0)))
    (a : Addr) (m c : Nat) (news : List Value) (hl : news.length = m * i.size) (hnews : ∀ j u, news[j]? = some u → w.cell? (a.add j) = some u) (h1 : ∀ u ∈ news, u.oneCell' = true)
    (hroom : sLen + m ≤ sCap) (hfit : o + sLen * i.size + news.length ≤ cur.size) :
    (Builtin.append_ #[t, t] ty #[.slice (some ⟨g, o, none⟩) sLen sCap, .slice (some a) m c]).run P w =
      .ok (.slice (some ⟨g, o, none⟩) (sLen + m) sCap) (w.setRow g (cur.toList.take (o + sLen * i.size) ++ news ++ cur.toList.drop (o + sLen * i.size + news.length)).toArray) := by
  have hf := run_firstCells_some (P := P) w i.size m a m c news hl hnews
  have hst := run_storeCells_at P g (o + sLen * i.size) ct news 0 cur w hg (by simpa using hfit) h1
  simp only [Nat.add_zero] at hst
  simp [Builtin.append_, run_underlying ht, sizeOf, typeInfo, hi, Builtin.lenOf, hroom, hf, addr_add, hst]

/-- The source of an append: its address and its cells. -/
theorem src_spec {μ : Map} {U : Nat → Prop} {h : Heap} {w : World} {e k : Nat} {x : AV} {src : List AV} {rs : List Nat} (r : Rel P.globals.size U μ h w) (hk : lenA x = some k) (hk0 : k ≠ 0) (hsc : sliceCells e h x = some (src, rs)) :
    ∃ ad c, conc μ x = .slice (some ad) k c ∧ src.length = k * e ∧ (∀ v ∈ src, vok U μ v) ∧ ∀ (j : Nat) u, (src.map (conc μ))[j]? = some u → w.cell? (ad.add j) = some u := by
  cases x <;> simp [lenA] at hk
  case nilsl => omega
  case sl b off lo len cap =>
    subst hk
    simp only [sliceCells, hk0, if_false] at hsc
    split at hsc
    · cases hsc
    rename_i hlo
    have hlo : lo = 0 := by omega
    subst hlo
    split at hsc
    case h_2 => cases hsc
    rename_i cs hb
    split at hsc
    case isFalse => cases hsc
    rename_i hl
    cases hsc
    obtain ⟨kb, hk1, hk2⟩ := rdOf_some hb
    have hat := r.at_ b _ hk1
    have hcells : ∀ (j : Nat) u, (((cs.drop off).take (len * e)).map (conc μ))[j]? = some u → w.cell? ((⟨(μ b).blk, (μ b).shift + off, none⟩ : Addr).add j) = some u := by
      intro j u hu
      rw [addr_add]
      simp only [List.getElem?_map, List.getElem?_take, List.getElem?_drop, Option.map_eq_some_iff] at hu
      obtain ⟨v, hv, rfl⟩ := hu
      split at hv
      · rw [Nat.add_assoc]; exact cell_at hat hk2 hv
      · cases hv
    have hok : ∀ v ∈ (cs.drop off).take (len * e), vok U μ v := fun v hv => ok_at (r.ok b _ hk1) hk2 v (List.mem_of_mem_drop (List.mem_of_mem_take hv))
    cases cap with
    | some c => exact ⟨_, c, by simp only [conc], hl, hok, hcells⟩
    | none => exact ⟨⟨(μ b).blk, (μ b).shift + off, none⟩, (μ b).rest off, by simp [conc], hl, hok, hcells⟩

theorem grown_size {z : List AV} {i : TypeInfo} (hzl : z.length = i.size) (μ : Map) {zc : Array Value} (hzc : zc = (z.map (conc μ)).toArray) (need cap : Nat) (hc : need ≤ cap) (cs : List Value) (hl : cs.length = need * i.size) :
    (cs.toArray ++ Builtin.zeroCells zc (cap - need)).size = cap * i.size := by
  have hs : zc.size = i.size := by subst hzc; simp [hzl]
  simp only [Array.size_append, List.size_toArray, size_zeroCells, hl, hs, ← Nat.add_mul]
  congr 1
  omega

/-- A new row of an append. -/
theorem done_grown {o : Oper} {ρ : Operand → Value} {μ : Map} {U : Nat → Prop} {h : Heap} {w : World} {n : Nat} (r : Rel P.globals.size U μ h w) (hn : ¬ U n) {e need cap : Nat} {cs : List AV} {zc : Array Value} {et : TypeId} (he : 0 < e) (hcs : ∀ v ∈ cs, vok U μ v)
    (hl : cs.length = need * e) (hcap : need ≤ cap) (hsz : ((cs.map (conc μ)).toArray ++ zc).size = cap * e)
    (hr : (execOp ρ o).run P w = .ok (.value (.slice (some ⟨w.heap.size, 0, none⟩) need cap)) (w.drew.alloc (.cells ((cs.map (conc μ)).toArray ++ zc) et))) :
    Done P o ρ U μ h w n (.sl n 0 0 need none) (.al (.cells e cs)) := by
  have hrest : (⟨w.heap.size, 0, ((cs.map (conc μ)).toArray ++ zc).size, e⟩ : MB).rest 0 = cap := by
    simp only [MB.rest, hsz, Nat.add_zero, Nat.sub_zero]
    exact Nat.mul_div_cancel _ he
  refine Done.alloc (c := (cs.map (conc μ)).toArray ++ zc) (ty := et) (w' := w.drew.alloc (.cells ((cs.map (conc μ)).toArray ++ zc) et)) r hn hcs (by simp) (fun j v hv => ?_) rfl rfl rfl rfl ?_ ?_
  · have hj : j < (cs.map (conc μ)).toArray.size := by simp; exact (List.getElem?_eq_some_iff.1 hv).1
    rw [Array.getElem?_append_left hj]; simp [hv]
  · rw [hr]
    simp only [conc, updμ_same, hrest]
    simp
  · simp only [vok, updμ_same]
    refine ⟨.inr rfl, he, ?_⟩
    simp only [Nat.zero_add]
    rw [hsz]
    exact Nat.mul_le_mul_right _ hcap

theorem Done.smaller {o : Oper} {ρ : Operand → Value} {μ : Map} {U : Nat → Prop} {h : Heap} {w : World} {n : Nat} {v : AV} {k : Blk} {b : Nat} (hd : Done P o ρ U μ h w n v (.al k)) : Done P o ρ U μ h w n v (.ap b k) := by
  obtain ⟨w', μ', h1, h2, h3, h4⟩ := hd
  have hsub : ∀ x y, applyEff n h (.ap b k) x = some y → applyEff n h (.al k) x = some y := by
    intro x y hx
    simp only [applyEff] at hx ⊢
    by_cases e : x = n
    · subst e; rw [upd_same] at hx ⊢; exact hx
    · rw [upd_ne _ _ e] at hx ⊢
      by_cases e2 : x = b
      · subst e2; rw [upd_same] at hx; cases hx
      · rwa [upd_ne _ _ e2] at hx
  exact ⟨w', μ', h1, h2.restrict hsub, h3.smaller hsub, h4⟩

set_option maxHeartbeats 1000000 in
theorem sound_app (t : TypeId) (s x : Operand) (e : TypeId) (i : TypeInfo) (z : List AV) (hu : P.underlying t = some (.slice e)) (hi : P.info? e = some i) (hz : zeroCellsOf P e = some z) (h0 : i.size ≠ 0) (hzl : z.length = i.size) :
    Sound P ⟨dst, .call { callee := .builtin .append, args := #[s, x], argTypes := #[t, t] }, type, pos, after, guard⟩ (.app i.size i.bytes (cx s) (cx x)) := by
  intro ρ a μ U h w n v rd eff hs ha r hn he
  have hvs := ha s (by simp [Op.operands, Call.operands])
  have hsx : ρ s = conc μ (ev a (cx s)) := hs s (by simp [Op.operands, Call.operands])
  have hxx : ρ x = conc μ (ev a (cx x)) := hs x (by simp [Op.operands, Call.operands])
  obtain ⟨i', zv, hi', hzz, hzc, hzo⟩ := zero_of hz
  obtain rfl : i' = i := by rw [hi] at hi'; exact (Option.some.inj hi').symm
  have lift : ∀ (u : Value) (w' : World), (Builtin.append_ #[t, t] type #[ρ s, ρ x]).run P w = .ok u w' →
      (execOp ρ ⟨dst, .call { callee := .builtin .append, args := #[s, x], argTypes := #[t, t] }, type, pos, after, guard⟩).run P w = .ok (.value u) w' := by
    intro u w' hr
    simp [execOp, resolve, invoke, builtin, hr]
  simp only [aop, appA, Option.bind_eq_bind, h0, if_false] at he
  generalize ev a (cx s) = sv at he hvs hsx
  generalize ev a (cx x) = xv at he hxx
  simp only [Option.bind_eq_some_iff] at he
  obtain ⟨k, hk, ⟨src, rs⟩, hsc, he⟩ := he
  simp only at he
  obtain ⟨xa, xc, hxc⟩ := conc_sl_len μ hk
  split at he
  · -- nil
    simp only [conc] at hsx
    split at he
    · rename_i hk0
      simp only [Option.some.injEq, Prod.mk.injEq] at he
      obtain ⟨rfl, rfl, rfl⟩ := he
      subst hk0
      refine Done.pure r (lift _ _ ?_) (by simp [vok])
      rw [hsx, hxx, hxc]
      simp only [conc]
      exact run_append_zero hu hi none xa 0 0 xc (by omega) (by simp) w
    · rename_i hk0
      split at he
      case isFalse => cases he
      rename_i hb
      simp only [Option.some.injEq, Prod.mk.injEq] at he
      obtain ⟨rfl, rfl, rfl⟩ := he
      obtain ⟨ad, c, hc, hl, hok, hcells⟩ := src_spec r hk hk0 hsc
      have hrun := run_append_nil (P := P) w t type e i' zv hu hi hzz ad k c (src.map (conc μ)) (by simpa using hl) hcells (by omega) (by omega) (by omega)
      rw [← hc, ← hxx, ← hsx] at hrun
      exact done_grown r (hn rfl) (by omega) hok hl (grownCap_ge w k 0 e) (grown_size hzl μ (hzc μ) k _ (grownCap_ge w k 0 e) _ (by simpa using hl)) (lift _ _ hrun)
  · rename_i b off lo len c
    split at he
    · cases he
    rename_i hlo
    have hlo : lo = 0 := by omega
    subst hlo
    simp only [vok] at hvs
    simp only [conc] at hsx
    split at he
    · rename_i hk0
      simp only [Option.some.injEq, Prod.mk.injEq] at he
      obtain ⟨rfl, rfl, rfl⟩ := he
      obtain ⟨rfl, hlc⟩ := hk0
      refine Done.pure r (lift _ _ ?_) (by simp only [vok]; exact hvs)
      rw [hsx, hxx, hxc]
      simp only [conc]
      exact run_append_zero hu hi _ xa len c xc hlc (by simp) w
    · rename_i hk0
      split at he
      case h_2 => cases he
      rename_i e' cs hb
      split at he
      · cases he
      rename_i hee
      have hee : e' = i'.size := by omega
      subst hee
      obtain ⟨cc, ct, h1, h2, h3, h5, h4⟩ := r.at_ b _ hb
      have hok' : ∀ v ∈ cs, vok U μ v := r.ok b _ hb
      have hkk : k ≠ 0 := by
        intro e0
        have := hvs.2.2
        exact hk0 ⟨e0, this⟩
      obtain ⟨ad, xc', hc, hl, hok, hcells⟩ := src_spec r hk hkk hsc
      split at he
      · rename_i hroom
        split at he
        case isFalse => cases he
        rename_i hfit
        simp only [Option.some.injEq, Prod.mk.injEq] at he
        obtain ⟨rfl, rfl, rfl⟩ := he
        have hfl : off + len * i'.size + src.length ≤ cs.length := by rw [hl, Nat.add_assoc, ← Nat.add_mul]; exact hfit.1
        have hrun := run_append_inplace (P := P) (ty := type) hu hi w (μ b).blk ((μ b).shift + off) len c cc ct h1 ad k xc' (src.map (conc μ)) (by simpa using hl) hcells
          (fun u hu => by obtain ⟨u', hu', rfl⟩ := List.mem_map.1 hu; exact one_conc (List.all_eq_true.1 hfit.2 u' hu')) hroom (by simp; omega)
        rw [← hc, ← hxx, ← hsx] at hrun
        rw [List.length_map, Nat.add_assoc (μ b).shift off] at hrun
        refine ⟨_, μ, .inl ((lift _ _ hrun).trans (by simp only [conc]; rfl)), ?_, ?_, by simp only [vok]; exact ⟨hvs.1, trivial, hroom⟩⟩
        · simp only [applyEff, hb]
          refine r.set hb rfl (BlkAt.write (off := off + len * i'.size) h1 h2 h3 h5 h4 (by omega)) ?_ fun B hB => setRow_other w _ B _ hB
          intro u hu
          rcases mem_splice hu with hu | hu
          · exact hok' u hu
          · exact hok u hu
        · simp only [applyEff, hb]
          exact Ext.set hb rfl rfl (by simp [World.setRow]) (fun B hB => setRow_other w _ B _ hB) rfl rfl rfl
      · rename_i hroom
        split at he
        case isFalse => cases he
        rename_i hfit
        simp only [Option.some.injEq, Prod.mk.injEq] at he
        obtain ⟨rfl, rfl, rfl⟩ := he
        have holds : ∀ (j : Nat) u, (((cs.drop off).take (len * i'.size)).map (conc μ))[j]? = some u → w.cell? ((⟨(μ b).blk, (μ b).shift + off, none⟩ : Addr).add j) = some u := by
          intro j u hu
          rw [addr_add]
          simp only [List.getElem?_map, List.getElem?_take, List.getElem?_drop, Option.map_eq_some_iff] at hu
          obtain ⟨v, hv, rfl⟩ := hu
          split at hv
          · rw [Nat.add_assoc]; exact cell_at (r.at_ b _ hb) rfl hv
          · cases hv
        have hrun := run_append_grow (P := P) w t type e i' zv hu hi hzz ⟨(μ b).blk, (μ b).shift + off, none⟩ len c (((cs.drop off).take (len * i'.size)).map (conc μ)) (by rw [List.length_map]; exact hfit.1) holds
          ad k xc' (src.map (conc μ)) (by simpa using hl) hcells (by omega) (by omega) (growslice_fits (by omega) (by omega))
        rw [← hc, ← hxx, ← hsx] at hrun
        have hll : ((cs.drop off).take (len * i'.size) ++ src).length = (len + k) * i'.size := by rw [List.length_append, hfit.1, hl, Nat.add_mul]
        have e1 : (((cs.drop off).take (len * i'.size)).map (conc μ)).toArray ++ (src.map (conc μ)).toArray = (((cs.drop off).take (len * i'.size) ++ src).map (conc μ)).toArray := by simp
        rw [e1] at hrun
        exact done_grown r (hn rfl) (by omega) (fun v hv => by
          rcases List.mem_append.1 hv with hv | hv
          · exact hok' v (List.mem_of_mem_drop (List.mem_of_mem_take hv))
          · exact hok v hv) hll (grownCap_ge w (len + k) c e) (grown_size hzl μ (hzc μ) (len + k) _ (grownCap_ge w (len + k) c e) _ (by rw [List.length_map]; exact hll)) (lift _ _ hrun)
  · rename_i b off lo len
    simp only [vok] at hvs
    obtain ⟨hUb, he0, hfits⟩ := hvs
    simp only [conc] at hsx
    split at he
    · rename_i hk0
      simp only [Option.some.injEq, Prod.mk.injEq] at he
      obtain ⟨rfl, rfl, rfl⟩ := he
      subst hk0
      refine Done.pure r (lift _ _ ?_) (by simp only [vok]; exact ⟨hUb, he0, hfits⟩)
      rw [hsx, hxx, hxc]
      simp only [conc]
      have hcl := le_rest he0 hfits
      exact run_append_zero hu hi _ xa len _ xc (by omega) (by simp) w
    · rename_i hk0
      split at he
      case h_2 => cases he
      rename_i e' cs hb
      split at he
      case isFalse => cases he
      rename_i hcond
      obtain ⟨hee, hend, hlz, hby, hsm, hone⟩ := hcond
      subst hee
      simp only [Option.some.injEq, Prod.mk.injEq] at he
      obtain ⟨rfl, rfl, rfl⟩ := he
      obtain ⟨cc, ct, h1, h2, h3, h5, h4⟩ := r.at_ b _ hb
      have hok' : ∀ v ∈ cs, vok U μ v := r.ok b _ hb
      obtain ⟨ad, xc', hc, hl, hok, hcells⟩ := src_spec r hk hk0 hsc
      have hcl := le_rest he0 hfits
      rw [h3] at he0 hfits hsx
      -- the old cells
      have hold : (cs.drop (off + lo * i'.size)).length = len * i'.size := by rw [List.length_drop, ← hend, Nat.add_mul]; omega
      have hll : (cs.drop (off + lo * i'.size) ++ src).length = (len + k) * i'.size := by rw [List.length_append, hold, hl, Nat.add_mul]
      have hokn : ∀ v ∈ cs.drop (off + lo * i'.size) ++ src, vok U μ v := fun v hv => by
        rcases List.mem_append.1 hv with hv | hv
        · exact hok' v (List.mem_of_mem_drop hv)
        · exact hok v hv
      -- where the slice begins
      have haddr : len ≠ 0 ∨ (μ b).rest off ≠ lo → (μ b).shift + off + (if (μ b).rest off = lo then 0 else lo * i'.size) = (μ b).shift + (off + lo * i'.size) := by
        intro hor
        by_cases hq : (μ b).rest off = lo
        · have : len = 0 := by omega
          exact absurd hq (hor.resolve_left (by omega))
        · rw [if_neg hq]; omega
      by_cases hroom : len + k ≤ (μ b).rest off - lo
      · -- in place
        have hcap : lo + len + k ≤ (μ b).rest off := by omega
        have hne : (μ b).rest off ≠ lo := by omega
        have hsz : (μ b).shift + off + (lo + len + k) * i'.size ≤ cc.size := by
          have := rest_fits (m := (μ b)) (off := off) (l := lo + len + k) (by rw [h3]; exact he0) (by omega) hcap
          rw [h3] at this; omega
        rw [if_neg hne] at hsx
        have e2 : (μ b).shift + off + lo * i'.size + len * i'.size = (μ b).shift + cs.length := by rw [← hend, Nat.add_mul]; omega
        have hrun := run_append_inplace (P := P) (ty := type) hu hi w (μ b).blk ((μ b).shift + off + lo * i'.size) len ((μ b).rest off - lo) cc ct h1 ad k xc' (src.map (conc μ)) (by simpa using hl) hcells
          (fun u hu => by obtain ⟨u', hu', rfl⟩ := List.mem_map.1 hu; exact one_conc (List.all_eq_true.1 hone u' hu')) hroom (by
            rw [e2, List.length_map, hl, ← hend]
            have : (lo + len + k) * i'.size = (lo + len) * i'.size + k * i'.size := Nat.add_mul _ _ _
            omega)
        rw [← hc, ← hxx, ← hsx] at hrun
        rw [e2] at hrun
        have hrest : (⟨(μ b).blk, (μ b).shift + (off + lo * i'.size), (μ b).size, i'.size⟩ : MB).rest 0 = (μ b).rest off - lo := by
          have := rest_add (μ b) off lo (by rw [h3]; exact he0) (by omega)
          rw [h3] at this
          rw [← this]
          simp [MB.rest, h3]
        have hn := hn rfl
        refine ⟨w.setRow (μ b).blk (cc.toList.take ((μ b).shift + cs.length) ++ List.map (conc μ) src ++ cc.toList.drop ((μ b).shift + cs.length + (List.map (conc μ) src).length)).toArray, updμ μ n ⟨(μ b).blk, (μ b).shift + (off + lo * i'.size), (μ b).size, i'.size⟩, .inl ?_, r.turn hn hb rfl _ rfl ?_ hokn (fun B hB => setRow_other w _ B _ hB), Ext.turn hn r hb rfl rfl _ rfl (by simp [World.setRow]) (fun B hB => setRow_other w _ B _ hB) rfl rfl rfl, ?_⟩
        · rw [lift _ _ hrun]
          simp only [conc, updμ_same, hrest, Nat.add_zero, Nat.zero_mul, ite_self, Nat.sub_zero, Nat.add_assoc]
        · refine ⟨_, ct, by rw [updμ_same]; exact setRow_heap w _ cc _ ct _ h1, ?_, by rw [updμ_same], ?_, fun j v hv => ?_⟩
          · rw [updμ_same]
            simp only [List.size_toArray, List.length_append, List.length_take, List.length_drop, Array.length_toList, List.length_map]
            have : (lo + len + k) * i'.size = (lo + len) * i'.size + k * i'.size := Nat.add_mul _ _ _
            rw [hl]
            omega
          · rw [updμ_same, hll]
            have : (lo + len + k) * i'.size = lo * i'.size + (len + k) * i'.size := by rw [Nat.add_assoc, Nat.add_mul]
            show (μ b).shift + (off + lo * i'.size) + (len + k) * i'.size ≤ (μ b).size
            omega
          · rw [updμ_same, conc_congr (updμ_used hn) v (hokn v (List.mem_of_getElem? hv))]
            simp only [List.getElem?_toArray, List.append_assoc]
            have hlen : (cc.toList.take ((μ b).shift + cs.length)).length = (μ b).shift + cs.length := by simp; omega
            by_cases hj : j < len * i'.size
            · rw [List.getElem?_append_left (by omega)] at hv
              rw [List.getElem?_append_left (by rw [hlen]; omega), List.getElem?_take, if_pos (by omega)]
              rw [List.getElem?_drop] at hv
              have := h4 _ v hv
              rw [← Array.getElem?_toList] at this
              rw [← this]
              congr 1
              omega
            · rw [List.getElem?_append_right (by omega), hold] at hv
              rw [List.getElem?_append_right (by rw [hlen]; omega), hlen]
              have hjl : j - len * i'.size < src.length := (List.getElem?_eq_some_iff.1 hv).1
              rw [List.getElem?_append_left (by simp; omega)]
              rw [show (μ b).shift + (off + lo * i'.size) + j - ((μ b).shift + cs.length) = j - len * i'.size by omega]
              simp [hv]
        · simp only [vok, updμ_same]
          refine ⟨.inr rfl, he0, ?_⟩
          have : (lo + len + k) * i'.size = lo * i'.size + (len + k) * i'.size := by rw [Nat.add_assoc, Nat.add_mul]
          simp only [Nat.zero_add, Nat.add_zero]
          omega
      · -- a new row
        refine Done.smaller ?_
        have holds : ∀ (j : Nat) u, ((cs.drop (off + lo * i'.size)).map (conc μ))[j]? = some u →
            w.cell? ((⟨(μ b).blk, (μ b).shift + off + (if (μ b).rest off = lo then 0 else lo * i'.size), none⟩ : Addr).add j) = some u := by
          intro j u hu
          have hj : j < len * i'.size := by have := (List.getElem?_eq_some_iff.1 hu).1; rwa [List.length_map, hold] at this
          have hlen0 : len ≠ 0 := by intro e0; subst e0; simp at hj
          rw [addr_add, haddr (.inl hlen0)]
          simp only [List.getElem?_map, List.getElem?_drop, Option.map_eq_some_iff] at hu
          obtain ⟨v, hv, rfl⟩ := hu
          rw [Nat.add_assoc]
          exact cell_at (r.at_ b _ hb) rfl hv
        have hrun := run_append_grow (P := P) w t type e i' zv hu hi hzz ⟨(μ b).blk, (μ b).shift + off + (if (μ b).rest off = lo then 0 else lo * i'.size), none⟩ len ((μ b).rest off - lo) ((cs.drop (off + lo * i'.size)).map (conc μ)) (by rw [List.length_map]; exact hold) holds
          ad k xc' (src.map (conc μ)) (by simpa using hl) hcells (by omega) (by omega) (growslice_fits (by omega) (by omega))
        rw [← hc, ← hxx, ← hsx] at hrun
        have e1 : ((cs.drop (off + lo * i'.size)).map (conc μ)).toArray ++ (src.map (conc μ)).toArray = ((cs.drop (off + lo * i'.size) ++ src).map (conc μ)).toArray := by simp
        rw [e1] at hrun
        exact done_grown r (hn rfl) he0 hokn hll (grownCap_ge w (len + k) _ e) (grown_size hzl μ (hzc μ) (len + k) _ (grownCap_ge w (len + k) _ e) _ (by rw [List.length_map]; exact hll)) (lift _ _ hrun)
  · cases he

end
end Go.Eng
/- Engine, part 13: clear; every resolved operation is sound; an operation looks at what it names alone. -/
namespace Go.Eng
open Go

section
variable {P : Program} {dst : Option Tmp} {type : TypeId} {pos : String} {after : Array Edge} {guard : Option (Nat × Bool)}

theorem sound_clr (t : TypeId) (at_ : Array TypeId) (x : Operand) (e : TypeId) (i : TypeInfo) (z : List AV) (h0 : at_[0]? = some t) (hu : P.underlying t = some (.slice e)) (hi : P.info? e = some i) (hz : zeroCellsOf P e = some z) (hzl : z.length = i.size) (hs0 : i.size ≠ 0) :
    Sound P ⟨dst, .call { callee := .builtin .clear, args := #[x], argTypes := at_ }, type, pos, after, guard⟩ (.clr i.size z (cx x)) := by
  intro ρ a μ U h w n v rd eff hs ha r hn he
  have hxx : ρ x = conc μ (ev a (cx x)) := hs x (by simp [Op.operands, Call.operands])
  obtain ⟨i', zv, hi', hzz, hzc, hzo⟩ := zero_of hz
  obtain rfl : i' = i := by rw [hi] at hi'; exact (Option.some.inj hi').symm
  have lift : ∀ (w' : World), (Builtin.clear_ at_ type #[ρ x]).run P w = .ok (.tuple #[]) w' →
      (execOp ρ ⟨dst, .call { callee := .builtin .clear, args := #[x], argTypes := at_ }, type, pos, after, guard⟩).run P w = .ok (.value (.tuple #[])) w' := by
    intro w' hr
    simp [execOp, resolve, invoke, builtin, hr]
  have hun : ∀ μ', conc μ' undefA = .tuple #[] := fun μ' => by simp [undefA, conc, concL]
  simp only [aop] at he
  generalize ev a (cx x) = xv at he hxx
  split at he
  · simp only [Option.some.injEq, Prod.mk.injEq] at he
    obtain ⟨rfl, rfl, rfl⟩ := he
    refine Done.pure' r (lift w ?_) (hun μ) (by simp [undefA, vok, vokL])
    simp [Builtin.clear_, h0, hxx, conc, run_underlying hu]
  · rename_i b off p len cap
    split at he
    · rename_i hl0
      subst hl0
      simp only [Option.some.injEq, Prod.mk.injEq] at he
      obtain ⟨rfl, rfl, rfl⟩ := he
      refine Done.pure' r (lift w ?_) (hun μ) (by simp [undefA, vok, vokL])
      cases cap <;> simp [Builtin.clear_, h0, hxx, conc, run_underlying hu]
    · rename_i hl0
      split at he
      · cases he
      rename_i hp
      have hp : p = 0 := by omega
      subst hp
      split at he
      case h_2 => cases he
      rename_i e' cs hb
      split at he
      case isFalse => cases he
      rename_i hc
      obtain ⟨hc1, hc2, hc3⟩ := hc
      simp only [Option.some.injEq, Prod.mk.injEq] at he
      obtain ⟨rfl, rfl, rfl⟩ := he
      obtain ⟨c, ty, h1, h2, h3, h5, h4⟩ := r.at_ b _ hb
      have hok : ∀ v ∈ cs, vok U μ v := r.ok b _ hb
      have hlr : (repl z len).length = len * i'.size := by rw [length_repl, hzl]
      have hx' : ∃ c', ρ x = .slice (some ⟨(μ b).blk, (μ b).shift + off, none⟩) len c' := by
        rw [hxx]
        cases cap with
        | some c' => exact ⟨c', by simp only [conc]⟩
        | none => exact ⟨(μ b).rest off, by simp [conc]⟩
      obtain ⟨c', hx'⟩ := hx'
      have hst := run_storeCells_at P (μ b).blk ((μ b).shift + off) ty ((repl z len).map (conc μ)) 0 c w h1 (by simp [hlr]; omega)
        (fun u hu => by obtain ⟨u', hu', rfl⟩ := List.mem_map.1 hu; exact one_conc (List.all_eq_true.1 hc3 u' (mem_repl hu')))
      simp only [Nat.add_zero, List.length_map] at hst
      have hzcells := zeroCells_conc (z := z) (by omega) len μ (hzc μ)
      have hzr : (zeroValue e).run P w = .ok zv w := by simp [zeroValue, typeInfo, hi, hzz]
      refine ⟨w.setRow (μ b).blk (c.toList.take ((μ b).shift + off) ++ (repl z len).map (conc μ) ++ c.toList.drop ((μ b).shift + off + (repl z len).length)).toArray, μ, .inl ((lift _ ?_).trans (by rw [hun μ])), ?_, ?_, by simp [undefA, vok, vokL]⟩
      · obtain ⟨len', rfl⟩ : ∃ l, len = l + 1 := ⟨len - 1, by omega⟩
        have hst' := hst
        rw [show (repl z (len' + 1)).map (conc μ) = (Builtin.zeroCells zv.cells (len' + 1)).toList by rw [hzcells]] at hst' ⊢
        simp only [List.append_assoc] at hst' ⊢
        simp [Builtin.clear_, h0, hx', run_underlying hu, hzr, hst']
      · simp only [applyEff, hb]
        refine r.set hb rfl (BlkAt.write h1 h2 h3 h5 h4 (by omega)) ?_ fun B hB => setRow_other w _ B _ hB
        intro u hu
        rcases mem_splice hu with hu | hu
        · exact hok u hu
        · exact hzo U μ u (mem_repl hu)
      · simp only [applyEff, hb]
        exact Ext.set hb rfl rfl (by simp [World.setRow]) (fun B hB => setRow_other w _ B _ hB) rfl rfl rfl
  · cases he

/-- **Every resolved operation is sound.** -/
theorem cop_sound {o : Oper} {ro : ROp} (h : cop P o.type o.op = some ro) : Sound P o ro := by
  obtain ⟨dst, op, type, pos, after, guard⟩ := o
  simp only at h
  cases op with
  | move x => simp only [cop, Option.some.injEq] at h; subst h; exact sound_mv x
  | assign x => simp only [cop, Option.some.injEq] at h; subst h; exact sound_assign x
  | pick c a b => simp only [cop, Option.some.injEq] at h; subst h; exact sound_pick c a b
  | alloc e => simp only [cop, Option.map_eq_some_iff] at h; obtain ⟨z, hz, rfl⟩ := h; exact sound_new e z hz
  | box e x => simp only [cop, Option.some.injEq] at h; subst h; exact sound_box e x
  | build t ps =>
    simp only [cop, Option.bind_eq_bind, Option.bind_eq_some_iff] at h
    obtain ⟨z, hz, h⟩ := h
    split at h
    · rename_i fs hu
      simp only [Option.bind_eq_some_iff] at h
      obtain ⟨qs, hq, h⟩ := h
      split at h
      · rename_i hall; simp only [Option.some.injEq] at h; subst h; exact sound_buildS t ps z fs qs hz hu hq hall
      · cases h
    · rename_i len e hu
      simp only [Option.bind_eq_some_iff, Option.some.injEq] at h
      obtain ⟨i, hi, rfl⟩ := h
      exact sound_buildA t ps z len e i hz hu hi
    · cases h
  | buildSlice t len ps =>
    simp only [cop] at h
    split at h
    case h_2 => cases h
    rename_i e hu
    simp only [Option.bind_eq_bind, Option.bind_eq_some_iff] at h
    obtain ⟨i, hi, z, hz, h⟩ := h
    split at h
    case isFalse => cases h
    rename_i hc
    simp only [Option.some.injEq] at h; subst h
    exact sound_bsl t len ps e i z hu hi hz hc.1 hc.2.1 hc.2.2
  | load t x =>
    simp only [cop, Option.bind_eq_bind, Option.bind_eq_some_iff, Option.some.injEq] at h
    obtain ⟨g, hg, i, hi, rfl⟩ := h
    exact sound_ld t x g i hg hi
  | store t x v =>
    simp only [cop, Option.bind_eq_bind, Option.bind_eq_some_iff, Option.some.injEq] at h
    obtain ⟨i, hi, rfl⟩ := h
    exact sound_st t x v i hi
  | nilCheck x => simp only [cop, Option.some.injEq] at h; subst h; exact sound_nck x
  | binOp op t x y yt =>
    simp only [cop] at h
    split at h
    · simp only [Option.some.injEq] at h; subst h; exact sound_bin op t yt x y
    · rename_i hu; simp only [Option.map_eq_some_iff] at h; obtain ⟨g, hg, rfl⟩ := h; exact sound_beq op t yt x y g hu hg
    · simp only [Option.some.injEq] at h; subst h; exact sound_sbin op t yt x y
    · rename_i e hu
      simp only [Option.bind_eq_bind, Option.bind_eq_some_iff] at h
      obtain ⟨g, hg, i, hi, h⟩ := h
      split at h
      · rename_i hsz; simp only [Option.some.injEq] at h; subst h; exact sound_peq op t yt x y g e i hu hi hsz hg
      · cases h
    · rename_i ms hu; simp only [Option.map_eq_some_iff] at h; obtain ⟨g, hg, rfl⟩ := h; exact sound_ieq op t yt x y g ms hu hg
    · rename_i fs hu
      simp only [Option.bind_eq_bind, Option.bind_eq_some_iff] at h
      obtain ⟨g, hg, h⟩ := h
      split at h
      · rename_i hc
        simp only [Bool.and_eq_true, Bool.not_eq_true'] at hc
        simp only [Option.some.injEq] at h; subst h
        exact sound_aeq op t yt x y g (by simp [aggOf, hu]) hc.1 hc.2 hg
      · cases h
    · rename_i len e hu
      simp only [Option.bind_eq_bind, Option.bind_eq_some_iff] at h
      obtain ⟨g, hg, h⟩ := h
      split at h
      · rename_i hc
        simp only [Bool.and_eq_true, Bool.not_eq_true'] at hc
        simp only [Option.some.injEq] at h; subst h
        exact sound_aeq op t yt x y g (by simp [aggOf, hu]) hc.1 hc.2 hg
      · cases h
    · rename_i e hu; simp only [Option.map_eq_some_iff] at h; obtain ⟨g, hg, rfl⟩ := h; exact sound_seq op t yt x y g e hu hg
    · cases h
  | unOp op t x => simp only [cop, Option.some.injEq] at h; subst h; exact sound_un op t x
  | convert s d x =>
    simp only [cop] at h
    split at h
    · rename_i k d' hd hs
      simp only [Option.some.injEq] at h; subst h
      exact sound_conv s d x k hd (by rw [hs]; rfl)
    · cases h
  | makeInterface t x =>
    simp only [cop] at h
    split at h
    · cases h
    · cases h
    · rename_i h1 h2
      simp only [Option.some.injEq] at h; subst h
      cases hu : P.underlying t with
      | none => exact absurd hu h2
      | some d => exact sound_mki t x d hu fun ms e => h1 ms (by rw [hu, e])
  | makeFunc f p c => simp only [cop, Option.some.injEq] at h; subst h; exact sound_mkf f p c
  | makeSlice t l c =>
    simp only [cop] at h
    split at h
    case h_2 => cases h
    rename_i e hu
    simp only [Option.bind_eq_bind, Option.bind_eq_some_iff] at h
    obtain ⟨i, hi, z, hz, h⟩ := h
    split at h
    · rename_i hs; simp only [Option.some.injEq] at h; subst h; exact sound_mks t l c e i z hu hi hz hs
    · cases h
  | slice t x lo hi mx =>
    simp only [cop] at h
    split at h
    case h_3 => cases h
    · rename_i e hu
      simp only [Option.bind_eq_bind, Option.bind_eq_some_iff] at h
      obtain ⟨i, hi', h⟩ := h
      split at h
      · cases h
      · rename_i hs; simp only [Option.some.injEq] at h; subst h; exact sound_slc t x lo hi mx e i hu hi' hs
    · rename_i hu
      split at h
      case isFalse => cases h
      rename_i hm
      cases mx with
      | some m => simp at hm
      | none => simp only [Option.some.injEq] at h; subst h; exact sound_slcS t x lo hi hu
  | fieldAddr t x f =>
    simp only [cop] at h
    split at h
    case h_2 => cases h
    rename_i fs hu
    simp only [Option.bind_eq_bind, Option.bind_eq_some_iff] at h
    obtain ⟨fl, hf, i, hi, h⟩ := h
    split at h
    · rename_i hs; simp only [Option.some.injEq] at h; subst h; exact sound_fa t x f fs fl i hu hf hi hs
    · cases h
  | field t x f =>
    simp only [cop] at h
    split at h
    case h_2 => cases h
    rename_i fs hu
    simp only [Option.bind_eq_bind, Option.bind_eq_some_iff, Option.some.injEq] at h
    obtain ⟨fl, hf, g, hg, i, hi, rfl⟩ := h
    exact sound_fld t x f fs fl g i hu hf hg hi
  | indexAddr t x y =>
    simp only [cop] at h
    split at h
    · rename_i len e hu
      simp only [Option.bind_eq_bind, Option.bind_eq_some_iff, Option.some.injEq] at h
      obtain ⟨i, hi, rfl⟩ := h
      exact sound_iaA t x y len e i hu hi
    · rename_i e hu
      simp only [Option.bind_eq_bind, Option.bind_eq_some_iff, Option.some.injEq] at h
      obtain ⟨i, hi, rfl⟩ := h
      exact sound_iaS t x y e i hu hi
    · cases h
  | index t x y =>
    simp only [cop] at h
    split at h
    · rename_i len e hu
      simp only [Option.bind_eq_bind, Option.bind_eq_some_iff, Option.some.injEq] at h
      obtain ⟨g, hg, i, hi, rfl⟩ := h
      exact sound_ixA t x y len e g i hu hg hi
    · rename_i hu
      simp only [Option.some.injEq] at h; subst h
      exact sound_ixS t x y hu
    · cases h
  | typeAssert x xt t comma =>
    simp only [cop, Option.bind_eq_bind, Option.bind_eq_some_iff] at h
    obtain ⟨i, hi, z, hz, h⟩ := h
    split at h
    · rename_i want hu; simp only [Option.some.injEq] at h; subst h; exact sound_taI x xt t comma z i want hu hi hz
    · rename_i d hd hu; simp only [Option.some.injEq] at h; subst h; exact sound_taC x xt t comma z i d hu (fun ms e => hd ms (by rw [e])) hi hz
    · cases h
  | extract x j => simp only [cop, Option.some.injEq] at h; subst h; exact sound_ext x j
  | call c =>
    obtain ⟨callee, args, argTypes⟩ := c
    simp only [cop] at h
    split at h
    · simp only [Option.some.injEq] at h; subst h; intro ρ a μ U hh w n v rd eff hs ha r hn he; simp [aop] at he
    · simp only [Option.some.injEq] at h; subst h; intro ρ a μ U hh w n v rd eff hs ha r hn he; simp [aop] at he
    · simp only [Option.some.injEq] at h; subst h; intro ρ a μ U hh w n v rd eff hs ha r hn he; simp [aop] at he
    · split at h
      · rename_i t x h0 h1
        have hargs : args = #[x] := by apply Array.ext'; exact h1
        subst hargs
        split at h
        · rename_i e hu; simp only [Option.some.injEq] at h; subst h; exact sound_len t argTypes x e h0 hu
        · rename_i hu; simp only [Option.some.injEq] at h; subst h; exact sound_lenStr t argTypes x h0 hu
        · rename_i len e hu; simp only [Option.some.injEq] at h; subst h; exact sound_lenArr t argTypes x len e h0 hu
        · cases h
      · rename_i t x h0 h1
        have hargs : args = #[x] := by apply Array.ext'; exact h1
        subst hargs
        split at h
        · rename_i e hu; simp only [Option.some.injEq] at h; subst h; exact sound_cap t argTypes x e h0 hu
        · cases h
      · rename_i t s x h0 h1
        have hargs : args = #[s, x] := by apply Array.ext'; exact h1
        subst hargs
        split at h
        case h_2 => cases h
        rename_i e hu
        simp only [Option.bind_eq_bind, Option.bind_eq_some_iff] at h
        obtain ⟨i, hi, z, hz, h⟩ := h
        split at h
        case isFalse => cases h
        rename_i hc
        simp only [Option.some.injEq] at h; subst h
        obtain ⟨rfl, hc1, hc2⟩ := hc
        exact sound_app t s x e i z hu hi hz hc1 hc2
      · rename_i t x h0 h1
        have hargs : args = #[x] := by apply Array.ext'; exact h1
        subst hargs
        split at h
        case h_2 => cases h
        rename_i e hu
        simp only [Option.bind_eq_bind, Option.bind_eq_some_iff] at h
        obtain ⟨i, hi, z, hz, h⟩ := h
        split at h
        case isFalse => cases h
        rename_i hc
        simp only [Option.some.injEq] at h; subst h
        exact sound_clr t argTypes x e i z h0 hu hi hz hc.1 hc.2
      · simp only [Option.some.injEq] at h; subst h; exact sound_mx argTypes args
      · simp only [Option.some.injEq] at h; subst h; exact sound_mn argTypes args
      · cases h
  | _ => simp [cop] at h

end
end Go.Eng
/- Engine, part 14: a step of an operation in a heap; framing. -/
namespace Go.Eng
open Go

def UI (U : Nat → Prop) (n n' : Nat) : Nat → Prop := fun x => U x ∨ (n ≤ x ∧ x < n')
def Avoid (U : Nat → Prop) (n n' : Nat) : Prop := ∀ x, n ≤ x → x < n' → ¬ U x

theorem UI_self (U : Nat → Prop) (n : Nat) : UI U n n = U := by
  funext x; simp only [UI]; apply propext; constructor
  · rintro (h | h)
    · exact h
    · omega
  · exact .inl

theorem UI_UI (U : Nat → Prop) {a b c : Nat} (h1 : a ≤ b) (h2 : b ≤ c) : UI (UI U a b) b c = UI U a c := by
  funext x; simp only [UI]; apply propext; constructor
  · rintro ((h | h) | h)
    · exact .inl h
    · exact .inr (by omega)
    · exact .inr (by omega)
  · rintro (h | h)
    · exact .inl (.inl h)
    · by_cases hx : x < b
      · exact .inl (.inr (by omega))
      · exact .inr (by omega)

theorem UI_one (U : Nat → Prop) (n : Nat) : UI U n (n + 1) = Un U n := by
  funext x; simp only [UI, Un]; apply propext; constructor
  · rintro (h | h)
    · exact .inl h
    · exact .inr (by omega)
  · rintro (h | h)
    · exact .inl h
    · exact .inr (by omega)

theorem UI_news (U : Nat → Prop) (n : Nat) (eff : Eff) : UI U n (n + eff.news) = UA U n eff := by
  cases eff <;> simp only [Eff.news, UA, Nat.add_zero] <;> first
    | exact UI_self U n
    | exact UI_one U n

theorem Avoid.mono {U : Nat → Prop} {a b c d : Nat} (h : Avoid U a d) (h1 : a ≤ b) (h2 : c ≤ d) : Avoid U b c := fun x hx hx' => h x (by omega) (by omega)
theorem Avoid.next {U : Nat → Prop} {a b c : Nat} (h : Avoid U a c) (h1 : a ≤ b) : Avoid (UI U a b) b c := by
  rintro x hx hx' (hu | hu)
  · exact h x (by omega) hx' hu
  · omega

/-- A step of one operation, in the abstract: from the heap h it hands on the value v and leaves the heap h'; the names of new blocks lie from n on below n'. -/
def OpEv (P : Program) (o : Oper) (a : List AV) (h : Heap) (n : Nat) (v : AV) (h' : Heap) (n' : Nat) : Prop :=
  n ≤ n' ∧ ∀ (U : Nat → Prop) (μ : Map) (w : World) (act : Act) (K : Act → World → Prop) (Q : Exit → Act → World → Prop), Avoid U n n' → Rel P.globals.size U μ h w →
    Says o.op act.eval μ a → OkOps o.op U μ a →
    (∀ μ' w', Rel P.globals.size (UI U n n') μ' h' w' → Ext U μ h w (UI U n n') μ' h' w' → vok (UI U n n') μ' v → K (act.put o.dst (conc μ' v)) w') → o.wp P act w K Q

theorem undef_conc (μ : Map) : conc μ undefA = undef := by simp [undefA, undef, conc, concL]

theorem OpEv.of_aop {P : Program} {o : Oper} {ro : ROp} (hc : cop P o.type o.op = some ro) {a : List AV} {h : Heap} {n : Nat} {v : AV} {rd : List Nat} {eff : Eff} (he : aop P a h n ro = some (v, rd, eff)) :
    OpEv P o a h n v (applyEff n h eff) (n + eff.news) := by
  refine ⟨by omega, fun U μ w act K Q hav r hs ha hk => ?_⟩
  obtain ⟨w', μ', hr, hrel, hext, hv⟩ := cop_sound hc act.eval a μ U h w n v rd eff hs ha r (fun hn => hav n (Nat.le_refl _) (by omega)) he
  have := hk μ' w' (by rw [UI_news]; exact hrel) (by rw [UI_news]; exact hext) (by rw [UI_news]; exact hv)
  unfold Oper.wp
  rcases hr with hr | ⟨hr, hu⟩
  · rw [hr, Oper.upon_value]; exact this
  · rw [hr, Oper.upon_skip]
    subst hu
    rwa [undef_conc] at this

/-! ### Framing -/

/-- A piece of a heap. -/
def sub (F : Nat → Bool) (h : Heap) : Heap := fun x => if F x then h x else none

/-- What a heap becomes where a piece of it has turned. -/
def weave (h0 h h' : Heap) (n n' : Nat) : Heap := fun x => if (h0 x).isSome || (decide (n ≤ x) && decide (x < n')) then h' x else h x

theorem Rel.frame {G : Nat} {U : Nat → Prop} {μ μ' : Map} {h0 h h' : Heap} {w w' : World} {n n' : Nat} (hav : Avoid U n n') (hsub : ∀ x k, h0 x = some k → h x = some k) (r : Rel G U μ h w)
    (r' : Rel G (UI U n n') μ' h' w') (e : Ext U μ h0 w (UI U n n') μ' h' w') : Rel G (UI U n n') μ' (weave h0 h h' n n') w' ∧ Ext U μ h w (UI U n n') μ' (weave h0 h h' n n') w' := by
  -- what the woven heap holds
  have look : ∀ x k, weave h0 h h' n n' x = some k → h' x = some k ∨ (h0 x = none ∧ h x = some k) := by
    intro x k hx
    unfold weave at hx
    split at hx
    · exact .inl hx
    · rename_i hc
      refine .inr ⟨?_, hx⟩
      cases h0x : h0 x with
      | none => rfl
      | some k0 => simp [h0x] at hc
  -- a block beside the piece stays
  have stays : ∀ x k, h0 x = none → h x = some k → w'.heap[(μ x).blk]? = w.heap[(μ x).blk]? := by
    intro x k h1 h2
    refine e.frame _ (r.lt h2) fun b k0 hb hw0 he => ?_
    have := r.inj b x k0 k (hsub b k0 hb) h2 hw0 he
    subst this
    rw [h1] at hb; cases hb
  refine ⟨⟨?_, ?_, ?_, ?_, ?_⟩, ⟨fun b hb => .inl hb, e.agree, e.size, ?_, ?_, ?_, e.os, e.tape, e.output⟩⟩
  · exact fun g hg => r'.glob g hg
  · intro x k hx
    rcases look x k hx with hx | ⟨_, hx⟩
    · exact r'.used x k hx
    · exact .inl (r.used x k hx)
  · intro x k hx
    rcases look x k hx with hx | ⟨h1, hx⟩
    · exact r'.at_ x k hx
    · exact (r.at_ x k hx).congr e.agree (r.used x k hx) (r.ok x k hx) (stays x k h1 hx)
  · intro x k hx
    rcases look x k hx with hx | ⟨_, hx⟩
    · exact r'.ok x k hx
    · exact (r.ok x k hx).mono (fun _ h => .inl h) e.agree
  · -- no two names for one block
    have mix : ∀ x y k k', h' x = some k → (h0 y = none ∧ h y = some k') → (k.wr = true ∨ k'.wr = true) → (μ' x).blk = (μ' y).blk → x = y := by
      intro x y k k' hx hy hw he
      rw [e.agree y (r.used y k' hy.2)] at he
      cases hk : k.wr with
      | true =>
        rcases e.img x k hx hk with ⟨b0, k0, hb0, hw0, e0⟩ | hs
        · have := r.inj b0 y k0 k' (hsub b0 k0 hb0) hy.2 hw0 (e0.trans he)
          subst this
          rw [hy.1] at hb0; cases hb0
        · have := r.lt hy.2; omega
      | false =>
        have hw' : k'.wr = true := hw.resolve_left (by rw [hk]; simp)
        cases k with
        | ro cs =>
          have h0x := e.ro x cs hx
          rw [e.agree x (r.used x _ (hsub x _ h0x))] at he
          exact (r.inj y x k' _ hy.2 (hsub x _ h0x) hw' he.symm).symm
        | cells => cases hk
        | mapo => cases hk
    intro x y k k' hx hy hw he
    rcases look x k hx with hx | hx <;> rcases look y k' hy with hy | hy
    · exact r'.inj x y k k' hx hy hw he
    · exact mix x y k k' hx hy (.inl hw) he
    · exact (mix y x k' k hy hx (.inr hw) he.symm).symm
    · rw [e.agree x (r.used x k hx.2), e.agree y (r.used y k' hy.2)] at he
      exact r.inj x y k k' hx.2 hy.2 hw he
  · intro B hB hnot
    exact e.frame B hB fun b k hb hw => hnot b k (hsub b k hb) hw
  · intro x k hx hw
    rcases look x k hx with hx | ⟨_, hx⟩
    · rcases e.img x k hx hw with ⟨b0, k0, hb0, hw0, e0⟩ | hs
      · exact .inl ⟨b0, k0, hsub b0 k0 hb0, hw0, e0⟩
      · exact .inr hs
    · exact .inl ⟨x, k, hx, hw, by rw [e.agree x (r.used x k hx)]⟩
  · intro x cs hx
    rcases look x _ hx with hx | ⟨_, hx⟩
    · exact hsub x _ (e.ro x cs hx)
    · exact hx

/-- A step goes on in a greater heap. -/
theorem OpEv.frame {P : Program} {o : Oper} {a : List AV} {h0 : Heap} {n : Nat} {v : AV} {h' : Heap} {n' : Nat} (hev : OpEv P o a h0 n v h' n') (h : Heap) (hsub : ∀ x k, h0 x = some k → h x = some k) :
    OpEv P o a h n v (weave h0 h h' n n') n' := by
  refine ⟨hev.1, fun U μ w act K Q hav r hs ha hk => ?_⟩
  refine hev.2 U μ w act K Q hav (r.restrict hsub) hs ha fun μ' w' r' e hv => ?_
  obtain ⟨h1, h2⟩ := Rel.frame hav hsub r r' e
  exact hk μ' w' h1 h2 hv

end Go.Eng
