/- Engine, part 21: an operation looks at what it names alone. -/
import Derived.Test.YthbbncgbbkcdgaaGreatDoorE20
namespace Go.Eng
open Go

section
variable {P : Program} {a : List AV} {h h' : Heap} {n : Nat}

theorem sliceCells_local {e : Nat} {x : AV} {r : List AV × List Nat} (he : sliceCells e h x = some r) (hl : ∀ y ∈ r.2, h' y = h y) : sliceCells e h' x = some r := by
  unfold sliceCells at he ⊢
  split at he <;> try exact he
  split at he
  · rename_i h0; rw [if_pos h0]; exact he
  · rename_i h0
    split at he
    · cases he
    · rename_i h1
      split at he
      · rename_i cs hb
        simp only at he
        split at he
        · rename_i hc
          cases he
          have := hl _ (List.mem_singleton.2 rfl)
          simp only [h0, h1, if_false, this, hb]
          rw [if_pos hc]
        · cases he
      · cases he

theorem eszOk_local {e : Nat} {x : AV} {r : List Nat} (he : eszOk e h x = some r) (hl : ∀ y ∈ r, h' y = h y) : eszOk e h' x = some r := by
  unfold eszOk at he ⊢
  split at he
  · split at he
    · rename_i hb
      split at he
      · rename_i hc
        cases he
        have := hl _ (List.mem_singleton.2 rfl)
        simp only [this, hb]
        rw [if_pos hc]
      · cases he
    · cases he
  · exact he

theorem appA_local {e by_ : Nat} {s x : AV} {v : AV} {rd : List Nat} {eff : Eff} (he : appA e by_ n h s x = some (v, rd, eff)) (hl : ∀ y ∈ rd, h' y = h y) : appA e by_ n h' s x = some (v, rd, eff) := by
  unfold appA at he ⊢
  split at he
  · cases he
  rename_i he0
  rw [if_neg he0]
  simp only [Option.bind_eq_bind, Option.bind_eq_some_iff] at he ⊢
  obtain ⟨k, hk, ⟨src, rs⟩, hs, he⟩ := he
  refine ⟨k, hk, (src, rs), ?_, ?_⟩
  · refine sliceCells_local hs fun y hy => hl y ?_
    simp only at he hy
    split at he
    · split at he
      · cases he; exact hy
      · split at he
        · cases he; exact hy
        · cases he
    · split at he
      · cases he
      · split at he
        · cases he; exact hy
        · split at he
          · split at he
            · cases he
            · split at he
              · split at he
                · cases he; exact List.mem_cons_of_mem _ hy
                · cases he
              · split at he
                · cases he; exact List.mem_cons_of_mem _ hy
                · cases he
          · cases he
    · split at he
      · cases he; exact hy
      · split at he
        · split at he
          · cases he; exact List.mem_cons_of_mem _ hy
          · cases he
        · cases he
    · cases he
  · simp only at he ⊢
    split at he
    · exact he
    · split at he
      · cases he
      · rename_i h1
        rw [if_neg h1]
        split at he
        · rename_i h2; rw [if_pos h2]; exact he
        · rename_i h2
          rw [if_neg h2]
          split at he
          · rename_i hb
            have hm : ∀ b', rd = b' :: rs → h' b' = h b' := fun b' e => hl b' (by rw [e]; simp)
            split at he
            · cases he
            · rename_i h3
              split at he
              · rename_i h4
                split at he
                · rename_i h5
                  cases he
                  simp only [hm _ rfl, hb, h3, h4, h5, if_true, if_false, and_self]
                · cases he
              · rename_i h4
                split at he
                · rename_i h5
                  cases he
                  simp only [hm _ rfl, hb, h3, h4, if_false]
                  rw [if_pos h5]
                · cases he
          · cases he
    · split at he
      · rename_i h2; rw [if_pos h2]; exact he
      · rename_i h2
        rw [if_neg h2]
        split at he
        · rename_i hb
          split at he
          · rename_i h5
            cases he
            have hm := hl _ (List.mem_cons_self ..)
            simp only [hm, hb]
            rw [if_pos h5]
          · cases he
        · cases he
    · cases he

theorem aop_local {ro : ROp} {v : AV} {rd : List Nat} {eff : Eff} (he : aop P a h n ro = some (v, rd, eff)) (hl : ∀ y ∈ rd, h' y = h y) : aop P a h' n ro = some (v, rd, eff) := by
  cases ro <;> try exact he
  case ld agg k x =>
    simp only [aop] at he ⊢
    split at he
    · split at he
      · rename_i hb
        simp only [Option.map_eq_some_iff, Prod.mk.injEq] at he
        obtain ⟨u, hu, rfl, rfl, rfl⟩ := he
        simp only [hl _ (List.mem_singleton.2 rfl), hb, hu, Option.map_some]
      · cases he
    · split at he
      · rename_i hg
        split at he
        · rename_i hb
          simp only [Option.map_eq_some_iff, Prod.mk.injEq] at he
          obtain ⟨u, hu, rfl, rfl, rfl⟩ := he
          simp only [hg, if_true, hl _ (List.mem_singleton.2 rfl), hb, hu, Option.map_some]
        · cases he
      · cases he
    · cases he
  case st k x y =>
    simp only [aop] at he ⊢
    split at he
    · split at he
      · rename_i hb
        split at he
        · rename_i hc
          cases he
          simp only [hl _ (List.mem_singleton.2 rfl), hb]
          rw [if_pos hc]
        · cases he
      · cases he
    · cases he
  case peq neg x y =>
    simp only [aop] at he ⊢
    split at he <;> try exact he
    split at he
    · rename_i hbb; rw [if_pos hbb]; exact he
    · rename_i hbb
      rw [if_neg hbb]
      split at he
      · rename_i h1 h2
        cases he
        simp only [hl _ (List.mem_cons_self ..), hl _ (List.mem_cons_of_mem _ (List.mem_singleton.2 rfl)), h1, h2]
      · cases he
  case ieq neg x y =>
    simp only [aop] at he ⊢
    split at he <;> try exact he
    split at he
    · rename_i h1; rw [if_pos h1]; exact he
    · rename_i h1
      rw [if_neg h1]
      split at he
      · split at he
        · split at he
          · rename_i h2
            rw [if_pos h2]
            split at he
            · rename_i hbb; rw [if_pos hbb]; exact he
            · rename_i hbb
              rw [if_neg hbb]
              split at he
              · rename_i h1 h2
                cases he
                simp only [hl _ (List.mem_cons_self ..), hl _ (List.mem_cons_of_mem _ (List.mem_singleton.2 rfl)), h1, h2]
              · cases he
          · cases he
        · cases he
      · cases he
  case slc e x lo hi mx =>
    simp only [aop, Option.bind_eq_some_iff, Option.map_eq_some_iff, Prod.mk.injEq] at he ⊢
    obtain ⟨r, hr, u, hu, rfl, rfl, rfl⟩ := he
    exact ⟨r, eszOk_local hr hl, u, hu, rfl, rfl, rfl⟩
  case app e by_ s x => exact appA_local he hl
  case clr e z x =>
    simp only [aop] at he ⊢
    split at he
    · exact he
    · split at he
      · rename_i h0; rw [if_pos h0]; exact he
      · rename_i h0
        rw [if_neg h0]
        split at he
        · cases he
        · rename_i h1
          rw [if_neg h1]
          split at he
          · rename_i hb
            split at he
            · rename_i hc
              cases he
              simp only [hl _ (List.mem_singleton.2 rfl), hb]
              rw [if_pos hc]
            · cases he
          · cases he
    · cases he

/-- What is written is read; no maps. -/
def EffRd (rd : List Nat) : Eff → Prop
  | .wr b _ _ => b ∈ rd
  | .ap b _ => b ∈ rd
  | .setm .. => False
  | _ => True

theorem aop_rd {ro : ROp} {v : AV} {rd : List Nat} {eff : Eff} (he : aop P a h n ro = some (v, rd, eff)) : EffRd rd eff := by
  have no : ∀ {o : Option AV} {f : AV → AV}, (o.map fun v => (f v, ([] : List Nat), Eff.no)) = some (v, rd, eff) → EffRd rd eff := by
    intro o f h
    simp only [Option.map_eq_some_iff, Prod.mk.injEq] at h
    obtain ⟨_, _, _, _, rfl⟩ := h
    trivial
  cases ro
  case app e by_ s x =>
    simp only [aop] at he
    unfold appA at he
    split at he
    · cases he
    simp only [Option.bind_eq_bind, Option.bind_eq_some_iff] at he
    obtain ⟨k, hk, ⟨src, rs⟩, hs, he⟩ := he
    simp only at he
    repeat' split at he
    all_goals first
      | (cases he; done)
      | (cases he; simp [EffRd])
  case taI comma x want z =>
    simp only [aop] at he
    split at he
    · simp only [Option.bind_eq_some_iff] at he
      obtain ⟨i, hi, he⟩ := he
      repeat' split at he
      all_goals first
        | (cases he; done)
        | (cases he; simp [EffRd])
    · split at he
      · cases he; simp [EffRd]
      · cases he
    · cases he
  all_goals (simp only [aop, Option.map_eq_some_iff, Option.bind_eq_some_iff, Prod.mk.injEq] at he)
  all_goals (repeat' split at he)
  all_goals first
    | (cases he; done)
    | (cases he; simp [EffRd]; done)
    | (simp only [Option.map_eq_some_iff, Option.bind_eq_some_iff, Prod.mk.injEq] at he; obtain ⟨_, _, rfl, rfl, rfl⟩ := he; trivial)
    | (simp only [Option.map_eq_some_iff, Option.bind_eq_some_iff, Prod.mk.injEq] at he; obtain ⟨_, _, _, _, rfl, rfl, rfl⟩ := he; trivial)
    | (obtain ⟨rfl, rfl, rfl⟩ := he; trivial)
    | (obtain ⟨_, _, rfl, rfl, rfl⟩ := he; trivial)
    | (obtain ⟨_, _, _, _, rfl, rfl, rfl⟩ := he; trivial)
    | skip
end
end Go.Eng
