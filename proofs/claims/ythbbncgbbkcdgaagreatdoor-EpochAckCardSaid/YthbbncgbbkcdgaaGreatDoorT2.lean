/- Engine, part 3: what an allocation, a store, an append do to the relation. -/
import Derived.Test.YthbbncgbbkcdgaaGreatDoorT1
import Derived.Laws.Append
import Derived.Laws.CopyRow
set_option linter.unusedSimpArgs false
set_option linter.unusedVariables false
set_option linter.unnecessarySimpa false
namespace Go.Eng
open Go

def Un (U : Nat → Prop) (n : Nat) : Nat → Prop := fun x => U x ∨ x = n

def updμ (μ : Map) (n : Nat) (m : MB) : Map := fun x => if x = n then m else μ x

@[simp] theorem updμ_same (μ : Map) (n : Nat) (m : MB) : updμ μ n m n = m := by simp [updμ]
theorem updμ_ne {μ : Map} {n x : Nat} {m : MB} (h : x ≠ n) : updμ μ n m x = μ x := by simp [updμ, h]
theorem updμ_used {U : Nat → Prop} {μ : Map} {n : Nat} {m : MB} (hn : ¬ U n) : ∀ b, U b → updμ μ n m b = μ b := fun b hb => updμ_ne fun e => hn (e ▸ hb)

theorem BlkAt.congr {U : Nat → Prop} {μ μ' : Map} {w w' : World} {b : Nat} {k : Blk} (hμ : ∀ x, U x → μ' x = μ x) (hb : U b) (hk : BlkOk U μ k)
    (hw : w'.heap[(μ b).blk]? = w.heap[(μ b).blk]?) (h : BlkAt μ w b k) : BlkAt μ' w' b k := by
  cases k with
  | cells e cs =>
    obtain ⟨c, ty, h1, h2, h3, h5, h4⟩ := h
    refine ⟨c, ty, ?_, ?_, ?_, ?_, fun i v hv => ?_⟩
    · rw [hμ b hb, hw]; exact h1
    · rw [hμ b hb]; exact h2
    · rw [hμ b hb]; exact h3
    · rw [hμ b hb]; exact h5
    · rw [hμ b hb, conc_congr hμ v (hk v (List.mem_of_getElem? hv))]; exact h4 i v hv
  | ro cs =>
    obtain ⟨c, ty, fr, h1, h4⟩ := h
    refine ⟨c, ty, fr, ?_, fun i v hv => ?_⟩
    · rw [hμ b hb, hw]; exact h1
    · rw [hμ b hb, conc_congr hμ v (hk v (List.mem_of_getElem? hv))]; exact h4 i v hv
  | mapo kv =>
    obtain ⟨es, cl, h1, h2⟩ := h
    refine ⟨es, cl, ?_, ?_⟩
    · rw [hμ b hb, hw]; exact h1
    · rw [h2]
      apply List.map_congr_left
      intro p hp
      rw [conc_congr hμ p.1 (hk p hp).1, conc_congr hμ p.2 (hk p hp).2]

theorem BlkOk.mono {U U' : Nat → Prop} {μ μ' : Map} {k : Blk} (hu : ∀ b, U b → U' b) (hμ : ∀ b, U b → μ' b = μ b) (h : BlkOk U μ k) : BlkOk U' μ' k := by
  cases k with
  | cells e cs => exact fun v hv => vok_mono hu hμ v (h v hv)
  | ro cs => exact fun v hv => vok_mono hu hμ v (h v hv)
  | mapo kv => exact fun p hp => ⟨vok_mono hu hμ p.1 (h p hp).1, vok_mono hu hμ p.2 (h p hp).2⟩

section
variable {G : Nat} {U : Nat → Prop} {μ : Map} {h : Heap} {w w' : World} {n b : Nat}

theorem Rel.no (r : Rel G U μ h w) (hh : w'.heap = w.heap) : Rel G U μ h w' where
  glob g hg := r.glob g hg
  used b k hb := r.used b k hb
  at_ b k hb := (r.at_ b k hb).congr (fun _ _ => rfl) (r.used b k hb) (r.ok b k hb) (by rw [hh])
  ok b k hb := r.ok b k hb
  inj := r.inj

theorem Ext.no (hh : w'.heap = w.heap) (ho : w'.os = w.os) (ht : w'.tape = w.tape) (hu : w'.output = w.output) : Ext U μ h w U μ h w' :=
  ⟨fun _ h => h, fun _ _ => rfl, by rw [hh]; exact Nat.le_refl _, fun _ _ _ => by rw [hh], fun b k hb hw => .inl ⟨b, k, hb, hw, rfl⟩, fun _ _ h => h, ho, ht, hu⟩

/-- A new block, which the name n is given to. -/
theorem Rel.new (r : Rel G U μ h w) (hn : ¬ U n) {e : Nat} {cs : List AV} (hcs : ∀ v ∈ cs, vok U μ v) {c : Array Value} {ty : TypeId} (m : MB) (hm1 : m.blk = w.heap.size) (hm2 : m.size = c.size)
    (hm3 : m.esz = e) (hm4 : m.shift + cs.length ≤ m.size) (hc : ∀ i v, cs[i]? = some v → c[m.shift + i]? = some (conc μ v))
    (hh : w'.heap = w.heap.push (.cells c ty (0, 0))) : Rel G (Un U n) (updμ μ n m) (upd h n (some (.cells e cs))) w' where
  glob g hg := ⟨.inl (r.glob g hg).1, by rw [updμ_used hn g (r.glob g hg).1]; exact (r.glob g hg).2⟩
  used x k hx := by
    by_cases e : x = n
    · exact .inr e
    · rw [upd_ne _ _ e] at hx; exact .inl (r.used x k hx)
  at_ x k hx := by
    by_cases ex : x = n
    · subst ex
      rw [upd_same] at hx; cases hx
      refine ⟨c, ty, ?_, ?_, ?_, ?_, fun i v hv => ?_⟩
      · rw [updμ_same, hh, hm1]; simp
      · rw [updμ_same, hm2]
      · rw [updμ_same, hm3]
      · rw [updμ_same]; exact hm4
      · rw [updμ_same, conc_congr (updμ_used hn) v (hcs v (List.mem_of_getElem? hv))]; exact hc i v hv
    · rw [upd_ne _ _ ex] at hx
      refine (r.at_ x k hx).congr (updμ_used hn) (r.used x k hx) (r.ok x k hx) ?_
      rw [hh, Array.getElem?_push, if_neg (by have := r.lt hx; omega)]
  ok x k hx := by
    by_cases ex : x = n
    · subst ex
      rw [upd_same] at hx; cases hx
      exact fun v hv => vok_mono (fun _ h => .inl h) (updμ_used hn) v (hcs v hv)
    · rw [upd_ne _ _ ex] at hx
      exact (r.ok x k hx).mono (fun _ h => .inl h) (updμ_used hn)
  inj x y k k' hx hy hwr he := by
    by_cases ex : x = n <;> by_cases ey : y = n
    · rw [ex, ey]
    · subst ex
      rw [upd_ne _ _ ey] at hy
      rw [updμ_same, updμ_ne ey, hm1] at he
      have := r.lt hy; omega
    · subst ey
      rw [upd_ne _ _ ex] at hx
      rw [updμ_same, updμ_ne ex, hm1] at he
      have := r.lt hx; omega
    · rw [upd_ne _ _ ex] at hx
      rw [upd_ne _ _ ey] at hy
      rw [updμ_ne ex, updμ_ne ey] at he
      exact r.inj x y k k' hx hy hwr he

theorem Ext.new (hn : ¬ U n) (r : Rel G U μ h w) {k : Blk} (hkw : k.wr = true) {o : Obj} (m : MB) (hm : m.blk = w.heap.size) (hh : w'.heap = w.heap.push o) (ho : w'.os = w.os) (ht : w'.tape = w.tape) (hu : w'.output = w.output) :
    Ext U μ h w (Un U n) (updμ μ n m) (upd h n (some k)) w' where
  sub _ hb := .inl hb
  agree := updμ_used hn
  size := by rw [hh]; simp
  frame B hB _ := by rw [hh, Array.getElem?_push, if_neg (by omega)]
  img x k hx hwr := by
    by_cases ex : x = n
    · subst ex; rw [updμ_same, hm]; exact .inr (Nat.le_refl _)
    · rw [upd_ne _ _ ex] at hx
      exact .inl ⟨x, k, hx, hwr, by rw [updμ_used hn x (r.used x k hx)]⟩
  ro x cs hx := by
    by_cases ex : x = n
    · subst ex; rw [upd_same] at hx; cases hx; cases hkw
    · rwa [upd_ne _ _ ex] at hx
  os := ho
  tape := ht
  output := hu

/-- One block written. -/
theorem Rel.set (r : Rel G U μ h w) {k k' : Blk} (hb : h b = some k) (hkw : k.wr = true) (hat : BlkAt μ w' b k') (hok : BlkOk U μ k') (hoth : ∀ B, B ≠ (μ b).blk → w'.heap[B]? = w.heap[B]?) :
    Rel G U μ (upd h b (some k')) w' where
  glob g hg := r.glob g hg
  used x y hx := by
    by_cases e : x = b
    · exact e ▸ r.used b k hb
    · rw [upd_ne _ _ e] at hx; exact r.used x y hx
  at_ x y hx := by
    by_cases e : x = b
    · subst e; rw [upd_same] at hx; cases hx; exact hat
    · rw [upd_ne _ _ e] at hx
      refine (r.at_ x y hx).congr (fun _ _ => rfl) (r.used x y hx) (r.ok x y hx) (hoth _ fun e' => e (r.inj b x k y hb hx hkw e'.symm).symm)
  ok x y hx := by
    by_cases e : x = b
    · subst e; rw [upd_same] at hx; cases hx; exact hok
    · rw [upd_ne _ _ e] at hx; exact r.ok x y hx
  inj x y p q hx hy hwr he := by
    have hx' : ∃ p, h x = some p ∧ p.wr = true := by
      by_cases e : x = b
      · exact ⟨k, e ▸ hb, hkw⟩
      · rw [upd_ne _ _ e] at hx; exact ⟨p, hx, hwr⟩
    have hy' : ∃ p, h y = some p := by
      by_cases e : y = b
      · exact ⟨k, e ▸ hb⟩
      · rw [upd_ne _ _ e] at hy; exact ⟨q, hy⟩
    obtain ⟨p', hp, hpw⟩ := hx'
    obtain ⟨q', hq⟩ := hy'
    exact r.inj x y p' q' hp hq hpw he

theorem Ext.set {k k' : Blk} (hb : h b = some k) (hkw : k.wr = true) (hkw' : k'.wr = true) (hsz : w'.heap.size = w.heap.size) (hoth : ∀ B, B ≠ (μ b).blk → w'.heap[B]? = w.heap[B]?) (ho : w'.os = w.os) (ht : w'.tape = w.tape) (hu : w'.output = w.output) :
    Ext U μ h w U μ (upd h b (some k')) w' where
  sub _ hb := hb
  agree _ _ := rfl
  size := by rw [hsz]; exact Nat.le_refl _
  frame B _ hnot := hoth B fun e => hnot b k hb hkw e.symm
  img x y hx hwr := by
    by_cases e : x = b
    · subst e; exact .inl ⟨x, k, hb, hkw, rfl⟩
    · rw [upd_ne _ _ e] at hx; exact .inl ⟨x, y, hx, hwr, rfl⟩
  ro x cs hx := by
    by_cases e : x = b
    · subst e; rw [upd_same] at hx; cases hx; cases hkw'
    · rwa [upd_ne _ _ e] at hx
  os := ho
  tape := ht
  output := hu

/-- One block written, and its name given up for a new one. -/
theorem Rel.turn (r : Rel G U μ h w) (hn : ¬ U n) {k k' : Blk} (hb : h b = some k) (hkw : k.wr = true) (m : MB) (hm : m.blk = (μ b).blk) (hat : BlkAt (updμ μ n m) w' n k') (hok : BlkOk U μ k') (hoth : ∀ B, B ≠ (μ b).blk → w'.heap[B]? = w.heap[B]?) :
    Rel G (Un U n) (updμ μ n m) (upd (upd h b none) n (some k')) w' where
  glob g hg := ⟨.inl (r.glob g hg).1, by rw [updμ_used hn g (r.glob g hg).1]; exact (r.glob g hg).2⟩
  used x y hx := by
    by_cases e : x = n
    · exact .inr e
    · rw [upd_ne _ _ e] at hx
      by_cases e2 : x = b
      · subst e2; rw [upd_same] at hx; cases hx
      · rw [upd_ne _ _ e2] at hx; exact .inl (r.used x y hx)
  at_ x y hx := by
    by_cases e : x = n
    · subst e; rw [upd_same] at hx; cases hx; exact hat
    · rw [upd_ne _ _ e] at hx
      by_cases e2 : x = b
      · subst e2; rw [upd_same] at hx; cases hx
      · rw [upd_ne _ _ e2] at hx
        exact (r.at_ x y hx).congr (updμ_used hn) (r.used x y hx) (r.ok x y hx) (hoth _ fun e' => e2 (r.inj b x k y hb hx hkw e'.symm).symm)
  ok x y hx := by
    by_cases e : x = n
    · subst e; rw [upd_same] at hx; cases hx; exact hok.mono (fun _ h => .inl h) (updμ_used hn)
    · rw [upd_ne _ _ e] at hx
      by_cases e2 : x = b
      · subst e2; rw [upd_same] at hx; cases hx
      · rw [upd_ne _ _ e2] at hx; exact (r.ok x y hx).mono (fun _ h => .inl h) (updμ_used hn)
  inj x y p q hx hy hwr he := by
    have look : ∀ z t, upd (upd h b none) n (some k') z = some t → z = n ∨ (z ≠ n ∧ z ≠ b ∧ h z = some t) := by
      intro z t hz
      by_cases e : z = n
      · exact .inl e
      · rw [upd_ne _ _ e] at hz
        by_cases e2 : z = b
        · subst e2; rw [upd_same] at hz; cases hz
        · rw [upd_ne _ _ e2] at hz; exact .inr ⟨e, e2, hz⟩
    rcases look x p hx with ex | ⟨ex, ex2, hx'⟩ <;> rcases look y q hy with ey | ⟨ey, ey2, hy'⟩
    · rw [ex, ey]
    · subst ex; rw [updμ_same, updμ_ne ey, hm] at he; exact absurd (r.inj b y k q hb hy' hkw he) (Ne.symm ey2)
    · subst ey; rw [updμ_same, updμ_ne ex, hm] at he; exact absurd (r.inj b x k p hb hx' hkw he.symm) (Ne.symm ex2)
    · rw [updμ_ne ex, updμ_ne ey] at he; exact r.inj x y p q hx' hy' hwr he

theorem Ext.turn (hn : ¬ U n) (r : Rel G U μ h w) {k k' : Blk} (hb : h b = some k) (hkw : k.wr = true) (hkw' : k'.wr = true) (m : MB) (hm : m.blk = (μ b).blk) (hsz : w'.heap.size = w.heap.size) (hoth : ∀ B, B ≠ (μ b).blk → w'.heap[B]? = w.heap[B]?)
    (ho : w'.os = w.os) (ht : w'.tape = w.tape) (hu : w'.output = w.output) : Ext U μ h w (Un U n) (updμ μ n m) (upd (upd h b none) n (some k')) w' where
  sub _ hb := .inl hb
  agree := updμ_used hn
  size := by rw [hsz]; exact Nat.le_refl _
  frame B _ hnot := hoth B fun e => hnot b k hb hkw e.symm
  img x y hx hwr := by
    by_cases e : x = n
    · subst e; exact .inl ⟨b, k, hb, hkw, by rw [updμ_same, hm]⟩
    · rw [upd_ne _ _ e] at hx
      by_cases e2 : x = b
      · subst e2; rw [upd_same] at hx; cases hx
      · rw [upd_ne _ _ e2] at hx; exact .inl ⟨x, y, hx, hwr, by rw [updμ_used hn x (r.used x y hx)]⟩
  ro x cs hx := by
    by_cases e : x = n
    · subst e; rw [upd_same] at hx; cases hx; cases hkw'
    · rw [upd_ne _ _ e] at hx
      by_cases e2 : x = b
      · subst e2; rw [upd_same] at hx; cases hx
      · rwa [upd_ne _ _ e2] at hx
  os := ho
  tape := ht
  output := hu

theorem Ext.smaller {U' : Nat → Prop} {μ' : Map} {h' h'' : Heap} (e : Ext U μ h w U' μ' h' w') (hs : ∀ b k, h'' b = some k → h' b = some k) : Ext U μ h w U' μ' h'' w' :=
  { e with img := fun b k hb => e.img b k (hs b k hb), ro := fun b cs hb => e.ro b cs (hs b _ hb) }

end

/-! ### Lists of cells -/

theorem getElem?_splice (cs : List AV) (off : Nat) (vs : List AV) (h : off + vs.length ≤ cs.length) (i : Nat) :
    (splice cs off vs)[i]? = if i < off then cs[i]? else if i < off + vs.length then vs[i - off]? else cs[i]? := by
  unfold splice
  by_cases h1 : i < off
  · rw [if_pos h1, List.getElem?_append_left (by simp; omega), List.getElem?_take, if_pos h1]
  · rw [if_neg h1, List.getElem?_append_right (by simp; omega)]
    have hl : (cs.take off).length = off := by simp; omega
    rw [hl]
    by_cases h2 : i < off + vs.length
    · rw [if_pos h2, List.getElem?_append_left (by omega)]
    · rw [if_neg h2, List.getElem?_append_right (by omega), List.getElem?_drop]
      congr 1
      omega

theorem length_splice (cs : List AV) (off : Nat) (vs : List AV) (h : off + vs.length ≤ cs.length) : (splice cs off vs).length = cs.length := by
  unfold splice
  simp
  omega

theorem mem_splice {cs : List AV} {off : Nat} {vs : List AV} {v : AV} (h : v ∈ splice cs off vs) : v ∈ cs ∨ v ∈ vs := by
  unfold splice at h
  simp only [List.mem_append] at h
  rcases h with h | h | h
  · exact .inl (List.mem_of_mem_take h)
  · exact .inr h
  · exact .inl (List.mem_of_mem_drop h)

theorem one_conc {μ : Map} : ∀ {v : AV}, one v = true → (conc μ v).oneCell' = true := by
  intro v h
  cases v with
  | sl b off lo len cap => cases cap <;> simp [conc, Value.oneCell']
  | raw v => simpa [one, conc] using h
  | agg => simp [one] at h
  | tup => simp [one] at h
  | _ => simp [conc, Value.oneCell']

theorem cells_conc (μ : Map) (v : AV) : (conc μ v).cells.toList = (cellsA v).map (conc μ) := by
  cases v with
  | agg cs => simp [conc, cellsA, Value.cells, concL_eq]
  | sl b off lo len cap => cases cap <;> simp [conc, cellsA, Value.cells]
  | raw v => simp [conc, cellsA, Function.comp_def]
  | _ => simp [conc, cellsA, Value.cells]

theorem vok_cellsA {U : Nat → Prop} {μ : Map} {v : AV} (h : vok U μ v) : ∀ x ∈ cellsA v, vok U μ x := by
  intro x hx
  cases v with
  | agg cs => simp only [cellsA] at hx; simp only [vok] at h; exact vokL_iff.1 h x hx
  | raw v => simp only [cellsA, List.mem_map] at hx; obtain ⟨y, _, rfl⟩ := hx; simp [vok]
  | _ => simp only [cellsA, List.mem_singleton] at hx; subst hx; exact h

end Go.Eng
