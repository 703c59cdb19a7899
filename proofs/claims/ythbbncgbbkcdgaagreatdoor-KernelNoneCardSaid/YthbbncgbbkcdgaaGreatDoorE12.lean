/- Engine, part 12: append and clear. -/
import Derived.Test.YthbbncgbbkcdgaaGreatDoorE11
import Derived.Laws.AppendOwn
namespace Go.Eng
open Go

section
variable {P : Program} {dst : Option Tmp} {type : TypeId} {pos : String} {after : Array Edge} {guard : Option (Nat × Bool)}

theorem run_append_zero {t ty e : TypeId} {i : TypeInfo} (ht : P.underlying t = some (.slice e)) (hi : P.info? e = some i) (ba xa : Option Addr) (l c xc : Nat) (hl : l ≤ c) (hn : ba = none → l = 0) (w : World) :
    (Builtin.append_ #[t, t] ty #[.slice ba l c, .slice xa 0 xc]).run P w = .ok (.slice ba l c) w := by
  cases ba with
  | none =>
    cases xa <;> simp [Builtin.append_, run_underlying ht, sizeOf, typeInfo, hi, Builtin.lenOf, Builtin.firstCells, loadCells, loadCellsFrom, hl]
  | some b =>
    cases xa <;> simp [Builtin.append_, run_underlying ht, sizeOf, typeInfo, hi, Builtin.lenOf, Builtin.firstCells, loadCells, loadCellsFrom, hl, storeCells]

theorem run_append_inplace {t ty e : TypeId} {i : TypeInfo} (ht : P.underlying t = some (.slice e)) (hi : P.info? e = some i) (w : World)
    (g o sLen sCap : Nat) (cur : Array Value) (ct : TypeId) (hg : w.heap[g]? = some (.cells cur ct (0, 0)))
    (a : Addr) (m c : Nat) (news : List Value) (hl : news.length = m * i.size) (hnews : ∀ j u, news[j]? = some u → w.cell? (a.add j) = some u) (h1 : ∀ u ∈ news, u.oneCell' = true)
    (hroom : sLen + m ≤ sCap) (hfit : o + sLen * i.size + news.length ≤ cur.size) :
    (Builtin.append_ #[t, t] ty #[.slice (some ⟨g, o, none⟩) sLen sCap, .slice (some a) m c]).run P w =
      .ok (.slice (some ⟨g, o, none⟩) (sLen + m) sCap) (w.setRow g (cur.toList.take (o + sLen * i.size) ++ news ++ cur.toList.drop (o + sLen * i.size + news.length)).toArray) := by
  have hf := run_firstCells_some (P := P) w i.size m a m c news hl hnews
  have hst := run_storeCells_at P g (o + sLen * i.size) ct news 0 cur w hg (by simpa using hfit) h1
  simp only [Nat.add_zero] at hst
  simp [Builtin.append_, run_underlying ht, sizeOf, typeInfo, hi, Builtin.lenOf, hroom, hf, addr_add, hst]

/-- The source of an append: its address and its cells. -/
theorem src_spec {μ : Map} {U : Nat → Prop} {h : Heap} {w : World} {e k : Nat} {x : AV} {src : List AV} {rs : List Nat} (r : Rel P.globals.size U μ h w) (hk : lenA x = some k) (hk0 : k ≠ 0) (hsc : sliceCells e h x = some (src, rs)) :
    ∃ ad c, conc μ x = .slice (some ad) k c ∧ src.length = k * e ∧ (∀ v ∈ src, vok U μ v) ∧ ∀ (j : Nat) u, (src.map (conc μ))[j]? = some u → w.cell? (ad.add j) = some u := by
  cases x <;> simp [lenA] at hk
  case nilsl => omega
  case sl b off lo len cap =>
    subst hk
    simp only [sliceCells, hk0, if_false] at hsc
    split at hsc
    · cases hsc
    rename_i hlo
    have hlo : lo = 0 := by omega
    subst hlo
    split at hsc
    case h_2 => cases hsc
    rename_i cs hb
    split at hsc
    case isFalse => cases hsc
    rename_i hl
    cases hsc
    obtain ⟨kb, hk1, hk2⟩ := rdOf_some hb
    have hat := r.at_ b _ hk1
    have hcells : ∀ (j : Nat) u, (((cs.drop off).take (len * e)).map (conc μ))[j]? = some u → w.cell? ((⟨(μ b).blk, (μ b).shift + off, none⟩ : Addr).add j) = some u := by
      intro j u hu
      rw [addr_add]
      simp only [List.getElem?_map, List.getElem?_take, List.getElem?_drop, Option.map_eq_some_iff] at hu
      obtain ⟨v, hv, rfl⟩ := hu
      split at hv
      · rw [Nat.add_assoc]; exact cell_at hat hk2 hv
      · cases hv
    have hok : ∀ v ∈ (cs.drop off).take (len * e), vok U μ v := fun v hv => ok_at (r.ok b _ hk1) hk2 v (List.mem_of_mem_drop (List.mem_of_mem_take hv))
    cases cap with
    | some c => exact ⟨_, c, by simp only [conc], hl, hok, hcells⟩
    | none => exact ⟨⟨(μ b).blk, (μ b).shift + off, none⟩, (μ b).rest off, by simp [conc], hl, hok, hcells⟩

theorem grown_size {z : List AV} {i : TypeInfo} (hzl : z.length = i.size) (μ : Map) {zc : Array Value} (hzc : zc = (z.map (conc μ)).toArray) (need cap : Nat) (hc : need ≤ cap) (cs : List Value) (hl : cs.length = need * i.size) :
    (cs.toArray ++ Builtin.zeroCells zc (cap - need)).size = cap * i.size := by
  have hs : zc.size = i.size := by subst hzc; simp [hzl]
  simp only [Array.size_append, List.size_toArray, size_zeroCells, hl, hs, ← Nat.add_mul]
  congr 1
  omega

/-- A new row of an append. -/
theorem done_grown {o : Oper} {ρ : Operand → Value} {μ : Map} {U : Nat → Prop} {h : Heap} {w : World} {n : Nat} (r : Rel P.globals.size U μ h w) (hn : ¬ U n) {e need cap : Nat} {cs : List AV} {zc : Array Value} {et : TypeId} (he : 0 < e) (hcs : ∀ v ∈ cs, vok U μ v)
    (hl : cs.length = need * e) (hcap : need ≤ cap) (hsz : ((cs.map (conc μ)).toArray ++ zc).size = cap * e)
    (hr : (execOp ρ o).run P w = .ok (.value (.slice (some ⟨w.heap.size, 0, none⟩) need cap)) (w.drew.alloc (.cells ((cs.map (conc μ)).toArray ++ zc) et))) :
    Done P o ρ U μ h w n (.sl n 0 0 need none) (.al (.cells e cs)) := by
  have hrest : (⟨w.heap.size, 0, ((cs.map (conc μ)).toArray ++ zc).size, e⟩ : MB).rest 0 = cap := by
    simp only [MB.rest, hsz, Nat.add_zero, Nat.sub_zero]
    exact Nat.mul_div_cancel _ he
  refine Done.alloc (c := (cs.map (conc μ)).toArray ++ zc) (ty := et) (w' := w.drew.alloc (.cells ((cs.map (conc μ)).toArray ++ zc) et)) r hn hcs (by simp) (fun j v hv => ?_) rfl rfl rfl rfl ?_ ?_
  · have hj : j < (cs.map (conc μ)).toArray.size := by simp; exact (List.getElem?_eq_some_iff.1 hv).1
    rw [Array.getElem?_append_left hj]; simp [hv]
  · rw [hr]
    simp only [conc, updμ_same, hrest]
    simp
  · simp only [vok, updμ_same]
    refine ⟨.inr rfl, he, ?_⟩
    simp only [Nat.zero_add]
    rw [hsz]
    exact Nat.mul_le_mul_right _ hcap

theorem Done.smaller {o : Oper} {ρ : Operand → Value} {μ : Map} {U : Nat → Prop} {h : Heap} {w : World} {n : Nat} {v : AV} {k : Blk} {b : Nat} (hd : Done P o ρ U μ h w n v (.al k)) : Done P o ρ U μ h w n v (.ap b k) := by
  obtain ⟨w', μ', h1, h2, h3, h4⟩ := hd
  have hsub : ∀ x y, applyEff n h (.ap b k) x = some y → applyEff n h (.al k) x = some y := by
    intro x y hx
    simp only [applyEff] at hx ⊢
    by_cases e : x = n
    · subst e; rw [upd_same] at hx ⊢; exact hx
    · rw [upd_ne _ _ e] at hx ⊢
      by_cases e2 : x = b
      · subst e2; rw [upd_same] at hx; cases hx
      · rwa [upd_ne _ _ e2] at hx
  exact ⟨w', μ', h1, h2.restrict hsub, h3.smaller hsub, h4⟩

set_option maxHeartbeats 1000000 in
theorem sound_app (t : TypeId) (s x : Operand) (e : TypeId) (i : TypeInfo) (z : List AV) (hu : P.underlying t = some (.slice e)) (hi : P.info? e = some i) (hz : zeroCellsOf P e = some z) (h0 : i.size ≠ 0) (hzl : z.length = i.size) :
    Sound P ⟨dst, .call { callee := .builtin .append, args := #[s, x], argTypes := #[t, t] }, type, pos, after, guard⟩ (.app i.size i.bytes (cx s) (cx x)) := by
  intro ρ a μ U h w n v rd eff hs ha r hn he
  have hvs := ha s (by simp [Op.operands, Call.operands])
  have hsx : ρ s = conc μ (ev a (cx s)) := hs s (by simp [Op.operands, Call.operands])
  have hxx : ρ x = conc μ (ev a (cx x)) := hs x (by simp [Op.operands, Call.operands])
  obtain ⟨i', zv, hi', hzz, hzc, hzo⟩ := zero_of hz
  obtain rfl : i' = i := by rw [hi] at hi'; exact (Option.some.inj hi').symm
  have lift : ∀ (u : Value) (w' : World), (Builtin.append_ #[t, t] type #[ρ s, ρ x]).run P w = .ok u w' →
      (execOp ρ ⟨dst, .call { callee := .builtin .append, args := #[s, x], argTypes := #[t, t] }, type, pos, after, guard⟩).run P w = .ok (.value u) w' := by
    intro u w' hr
    simp [execOp, resolve, invoke, builtin, hr]
  simp only [aop, appA, Option.bind_eq_bind, h0, if_false] at he
  generalize ev a (cx s) = sv at he hvs hsx
  generalize ev a (cx x) = xv at he hxx
  simp only [Option.bind_eq_some_iff] at he
  obtain ⟨k, hk, ⟨src, rs⟩, hsc, he⟩ := he
  simp only at he
  obtain ⟨xa, xc, hxc⟩ := conc_sl_len μ hk
  split at he
  · -- nil
    simp only [conc] at hsx
    split at he
    · rename_i hk0
      simp only [Option.some.injEq, Prod.mk.injEq] at he
      obtain ⟨rfl, rfl, rfl⟩ := he
      subst hk0
      refine Done.pure r (lift _ _ ?_) (by simp [vok])
      rw [hsx, hxx, hxc]
      simp only [conc]
      exact run_append_zero hu hi none xa 0 0 xc (by omega) (by simp) w
    · rename_i hk0
      split at he
      case isFalse => cases he
      rename_i hb
      simp only [Option.some.injEq, Prod.mk.injEq] at he
      obtain ⟨rfl, rfl, rfl⟩ := he
      obtain ⟨ad, c, hc, hl, hok, hcells⟩ := src_spec r hk hk0 hsc
      have hrun := run_append_nil (P := P) w t type e i' zv hu hi hzz ad k c (src.map (conc μ)) (by simpa using hl) hcells (by omega) (by omega) (by omega)
      rw [← hc, ← hxx, ← hsx] at hrun
      exact done_grown r (hn rfl) (by omega) hok hl (grownCap_ge w k 0 e) (grown_size hzl μ (hzc μ) k _ (grownCap_ge w k 0 e) _ (by simpa using hl)) (lift _ _ hrun)
  · rename_i b off lo len c
    split at he
    · cases he
    rename_i hlo
    have hlo : lo = 0 := by omega
    subst hlo
    simp only [vok] at hvs
    simp only [conc] at hsx
    split at he
    · rename_i hk0
      simp only [Option.some.injEq, Prod.mk.injEq] at he
      obtain ⟨rfl, rfl, rfl⟩ := he
      obtain ⟨rfl, hlc⟩ := hk0
      refine Done.pure r (lift _ _ ?_) (by simp only [vok]; exact hvs)
      rw [hsx, hxx, hxc]
      simp only [conc]
      exact run_append_zero hu hi _ xa len c xc hlc (by simp) w
    · rename_i hk0
      split at he
      case h_2 => cases he
      rename_i e' cs hb
      split at he
      · cases he
      rename_i hee
      have hee : e' = i'.size := by omega
      subst hee
      obtain ⟨cc, ct, h1, h2, h3, h5, h4⟩ := r.at_ b _ hb
      have hok' : ∀ v ∈ cs, vok U μ v := r.ok b _ hb
      have hkk : k ≠ 0 := by
        intro e0
        have := hvs.2.2
        exact hk0 ⟨e0, this⟩
      obtain ⟨ad, xc', hc, hl, hok, hcells⟩ := src_spec r hk hkk hsc
      split at he
      · rename_i hroom
        split at he
        case isFalse => cases he
        rename_i hfit
        simp only [Option.some.injEq, Prod.mk.injEq] at he
        obtain ⟨rfl, rfl, rfl⟩ := he
        have hfl : off + len * i'.size + src.length ≤ cs.length := by rw [hl, Nat.add_assoc, ← Nat.add_mul]; exact hfit.1
        have hrun := run_append_inplace (P := P) (ty := type) hu hi w (μ b).blk ((μ b).shift + off) len c cc ct h1 ad k xc' (src.map (conc μ)) (by simpa using hl) hcells
          (fun u hu => by obtain ⟨u', hu', rfl⟩ := List.mem_map.1 hu; exact one_conc (List.all_eq_true.1 hfit.2 u' hu')) hroom (by simp; omega)
        rw [← hc, ← hxx, ← hsx] at hrun
        rw [List.length_map, Nat.add_assoc (μ b).shift off] at hrun
        refine ⟨_, μ, .inl ((lift _ _ hrun).trans (by simp only [conc]; rfl)), ?_, ?_, by simp only [vok]; exact ⟨hvs.1, trivial, hroom⟩⟩
        · simp only [applyEff, hb]
          refine r.set hb rfl (BlkAt.write (off := off + len * i'.size) h1 h2 h3 h5 h4 (by omega)) ?_ fun B hB => setRow_other w _ B _ hB
          intro u hu
          rcases mem_splice hu with hu | hu
          · exact hok' u hu
          · exact hok u hu
        · simp only [applyEff, hb]
          exact Ext.set hb rfl rfl (by simp [World.setRow]) (fun B hB => setRow_other w _ B _ hB) rfl rfl rfl
      · rename_i hroom
        split at he
        case isFalse => cases he
        rename_i hfit
        simp only [Option.some.injEq, Prod.mk.injEq] at he
        obtain ⟨rfl, rfl, rfl⟩ := he
        have holds : ∀ (j : Nat) u, (((cs.drop off).take (len * i'.size)).map (conc μ))[j]? = some u → w.cell? ((⟨(μ b).blk, (μ b).shift + off, none⟩ : Addr).add j) = some u := by
          intro j u hu
          rw [addr_add]
          simp only [List.getElem?_map, List.getElem?_take, List.getElem?_drop, Option.map_eq_some_iff] at hu
          obtain ⟨v, hv, rfl⟩ := hu
          split at hv
          · rw [Nat.add_assoc]; exact cell_at (r.at_ b _ hb) rfl hv
          · cases hv
        have hrun := run_append_grow (P := P) w t type e i' zv hu hi hzz ⟨(μ b).blk, (μ b).shift + off, none⟩ len c (((cs.drop off).take (len * i'.size)).map (conc μ)) (by rw [List.length_map]; exact hfit.1) holds
          ad k xc' (src.map (conc μ)) (by simpa using hl) hcells (by omega) (by omega) (growslice_fits (by omega) (by omega))
        rw [← hc, ← hxx, ← hsx] at hrun
        have hll : ((cs.drop off).take (len * i'.size) ++ src).length = (len + k) * i'.size := by rw [List.length_append, hfit.1, hl, Nat.add_mul]
        have e1 : (((cs.drop off).take (len * i'.size)).map (conc μ)).toArray ++ (src.map (conc μ)).toArray = (((cs.drop off).take (len * i'.size) ++ src).map (conc μ)).toArray := by simp
        rw [e1] at hrun
        exact done_grown r (hn rfl) (by omega) (fun v hv => by
          rcases List.mem_append.1 hv with hv | hv
          · exact hok' v (List.mem_of_mem_drop (List.mem_of_mem_take hv))
          · exact hok v hv) hll (grownCap_ge w (len + k) c e) (grown_size hzl μ (hzc μ) (len + k) _ (grownCap_ge w (len + k) c e) _ (by rw [List.length_map]; exact hll)) (lift _ _ hrun)
  · rename_i b off lo len
    simp only [vok] at hvs
    obtain ⟨hUb, he0, hfits⟩ := hvs
    simp only [conc] at hsx
    split at he
    · rename_i hk0
      simp only [Option.some.injEq, Prod.mk.injEq] at he
      obtain ⟨rfl, rfl, rfl⟩ := he
      subst hk0
      refine Done.pure r (lift _ _ ?_) (by simp only [vok]; exact ⟨hUb, he0, hfits⟩)
      rw [hsx, hxx, hxc]
      simp only [conc]
      have hcl := le_rest he0 hfits
      exact run_append_zero hu hi _ xa len _ xc (by omega) (by simp) w
    · rename_i hk0
      split at he
      case h_2 => cases he
      rename_i e' cs hb
      split at he
      case isFalse => cases he
      rename_i hcond
      obtain ⟨hee, hend, hlz, hby, hsm, hone⟩ := hcond
      subst hee
      simp only [Option.some.injEq, Prod.mk.injEq] at he
      obtain ⟨rfl, rfl, rfl⟩ := he
      obtain ⟨cc, ct, h1, h2, h3, h5, h4⟩ := r.at_ b _ hb
      have hok' : ∀ v ∈ cs, vok U μ v := r.ok b _ hb
      obtain ⟨ad, xc', hc, hl, hok, hcells⟩ := src_spec r hk hk0 hsc
      have hcl := le_rest he0 hfits
      rw [h3] at he0 hfits hsx
      -- the old cells
      have hold : (cs.drop (off + lo * i'.size)).length = len * i'.size := by rw [List.length_drop, ← hend, Nat.add_mul]; omega
      have hll : (cs.drop (off + lo * i'.size) ++ src).length = (len + k) * i'.size := by rw [List.length_append, hold, hl, Nat.add_mul]
      have hokn : ∀ v ∈ cs.drop (off + lo * i'.size) ++ src, vok U μ v := fun v hv => by
        rcases List.mem_append.1 hv with hv | hv
        · exact hok' v (List.mem_of_mem_drop hv)
        · exact hok v hv
      -- where the slice begins
      have haddr : len ≠ 0 ∨ (μ b).rest off ≠ lo → (μ b).shift + off + (if (μ b).rest off = lo then 0 else lo * i'.size) = (μ b).shift + (off + lo * i'.size) := by
        intro hor
        by_cases hq : (μ b).rest off = lo
        · have : len = 0 := by omega
          exact absurd hq (hor.resolve_left (by omega))
        · rw [if_neg hq]; omega
      by_cases hroom : len + k ≤ (μ b).rest off - lo
      · -- in place
        have hcap : lo + len + k ≤ (μ b).rest off := by omega
        have hne : (μ b).rest off ≠ lo := by omega
        have hsz : (μ b).shift + off + (lo + len + k) * i'.size ≤ cc.size := by
          have := rest_fits (m := (μ b)) (off := off) (l := lo + len + k) (by rw [h3]; exact he0) (by omega) hcap
          rw [h3] at this; omega
        rw [if_neg hne] at hsx
        have e2 : (μ b).shift + off + lo * i'.size + len * i'.size = (μ b).shift + cs.length := by rw [← hend, Nat.add_mul]; omega
        have hrun := run_append_inplace (P := P) (ty := type) hu hi w (μ b).blk ((μ b).shift + off + lo * i'.size) len ((μ b).rest off - lo) cc ct h1 ad k xc' (src.map (conc μ)) (by simpa using hl) hcells
          (fun u hu => by obtain ⟨u', hu', rfl⟩ := List.mem_map.1 hu; exact one_conc (List.all_eq_true.1 hone u' hu')) hroom (by
            rw [e2, List.length_map, hl, ← hend]
            have : (lo + len + k) * i'.size = (lo + len) * i'.size + k * i'.size := Nat.add_mul _ _ _
            omega)
        rw [← hc, ← hxx, ← hsx] at hrun
        rw [e2] at hrun
        have hrest : (⟨(μ b).blk, (μ b).shift + (off + lo * i'.size), (μ b).size, i'.size⟩ : MB).rest 0 = (μ b).rest off - lo := by
          have := rest_add (μ b) off lo (by rw [h3]; exact he0) (by omega)
          rw [h3] at this
          rw [← this]
          simp [MB.rest, h3]
        have hn := hn rfl
        refine ⟨w.setRow (μ b).blk (cc.toList.take ((μ b).shift + cs.length) ++ List.map (conc μ) src ++ cc.toList.drop ((μ b).shift + cs.length + (List.map (conc μ) src).length)).toArray, updμ μ n ⟨(μ b).blk, (μ b).shift + (off + lo * i'.size), (μ b).size, i'.size⟩, .inl ?_, r.turn hn hb rfl _ rfl ?_ hokn (fun B hB => setRow_other w _ B _ hB), Ext.turn hn r hb rfl rfl _ rfl (by simp [World.setRow]) (fun B hB => setRow_other w _ B _ hB) rfl rfl rfl, ?_⟩
        · rw [lift _ _ hrun]
          simp only [conc, updμ_same, hrest, Nat.add_zero, Nat.zero_mul, ite_self, Nat.sub_zero, Nat.add_assoc]
        · refine ⟨_, ct, by rw [updμ_same]; exact setRow_heap w _ cc _ ct _ h1, ?_, by rw [updμ_same], ?_, fun j v hv => ?_⟩
          · rw [updμ_same]
            simp only [List.size_toArray, List.length_append, List.length_take, List.length_drop, Array.length_toList, List.length_map]
            have : (lo + len + k) * i'.size = (lo + len) * i'.size + k * i'.size := Nat.add_mul _ _ _
            rw [hl]
            omega
          · rw [updμ_same, hll]
            have : (lo + len + k) * i'.size = lo * i'.size + (len + k) * i'.size := by rw [Nat.add_assoc, Nat.add_mul]
            show (μ b).shift + (off + lo * i'.size) + (len + k) * i'.size ≤ (μ b).size
            omega
          · rw [updμ_same, conc_congr (updμ_used hn) v (hokn v (List.mem_of_getElem? hv))]
            simp only [List.getElem?_toArray, List.append_assoc]
            have hlen : (cc.toList.take ((μ b).shift + cs.length)).length = (μ b).shift + cs.length := by simp; omega
            by_cases hj : j < len * i'.size
            · rw [List.getElem?_append_left (by omega)] at hv
              rw [List.getElem?_append_left (by rw [hlen]; omega), List.getElem?_take, if_pos (by omega)]
              rw [List.getElem?_drop] at hv
              have := h4 _ v hv
              rw [← Array.getElem?_toList] at this
              rw [← this]
              congr 1
              omega
            · rw [List.getElem?_append_right (by omega), hold] at hv
              rw [List.getElem?_append_right (by rw [hlen]; omega), hlen]
              have hjl : j - len * i'.size < src.length := (List.getElem?_eq_some_iff.1 hv).1
              rw [List.getElem?_append_left (by simp; omega)]
              rw [show (μ b).shift + (off + lo * i'.size) + j - ((μ b).shift + cs.length) = j - len * i'.size by omega]
              simp [hv]
        · simp only [vok, updμ_same]
          refine ⟨.inr rfl, he0, ?_⟩
          have : (lo + len + k) * i'.size = lo * i'.size + (len + k) * i'.size := by rw [Nat.add_assoc, Nat.add_mul]
          simp only [Nat.zero_add, Nat.add_zero]
          omega
      · -- a new row
        refine Done.smaller ?_
        have holds : ∀ (j : Nat) u, ((cs.drop (off + lo * i'.size)).map (conc μ))[j]? = some u →
            w.cell? ((⟨(μ b).blk, (μ b).shift + off + (if (μ b).rest off = lo then 0 else lo * i'.size), none⟩ : Addr).add j) = some u := by
          intro j u hu
          have hj : j < len * i'.size := by have := (List.getElem?_eq_some_iff.1 hu).1; rwa [List.length_map, hold] at this
          have hlen0 : len ≠ 0 := by intro e0; subst e0; simp at hj
          rw [addr_add, haddr (.inl hlen0)]
          simp only [List.getElem?_map, List.getElem?_drop, Option.map_eq_some_iff] at hu
          obtain ⟨v, hv, rfl⟩ := hu
          rw [Nat.add_assoc]
          exact cell_at (r.at_ b _ hb) rfl hv
        have hrun := run_append_grow (P := P) w t type e i' zv hu hi hzz ⟨(μ b).blk, (μ b).shift + off + (if (μ b).rest off = lo then 0 else lo * i'.size), none⟩ len ((μ b).rest off - lo) ((cs.drop (off + lo * i'.size)).map (conc μ)) (by rw [List.length_map]; exact hold) holds
          ad k xc' (src.map (conc μ)) (by simpa using hl) hcells (by omega) (by omega) (growslice_fits (by omega) (by omega))
        rw [← hc, ← hxx, ← hsx] at hrun
        have e1 : ((cs.drop (off + lo * i'.size)).map (conc μ)).toArray ++ (src.map (conc μ)).toArray = ((cs.drop (off + lo * i'.size) ++ src).map (conc μ)).toArray := by simp
        rw [e1] at hrun
        exact done_grown r (hn rfl) he0 hokn hll (grownCap_ge w (len + k) _ e) (grown_size hzl μ (hzc μ) (len + k) _ (grownCap_ge w (len + k) _ e) _ (by rw [List.length_map]; exact hll)) (lift _ _ hrun)
  · cases he

end
end Go.Eng
