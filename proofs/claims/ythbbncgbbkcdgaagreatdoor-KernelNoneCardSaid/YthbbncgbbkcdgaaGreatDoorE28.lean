/- Engine, part 28: names that are given up; calls in a greater heap. -/
import Derived.Test.YthbbncgbbkcdgaaGreatDoorE27
namespace Go.Eng
open Go

mutual
/-- All names lie below n. -/
def below (n : Nat) : AV → Bool
  | .ptr b _ => Nat.blt b n
  | .sl b _ _ _ _ => Nat.blt b n
  | .mp b => Nat.blt b n
  | .fn _ a c => belowL n a && belowL n c
  | .iface _ v => below n v
  | .agg cs => belowL n cs
  | .tup cs => belowL n cs
  | _ => true
def belowL (n : Nat) : List AV → Bool
  | [] => true
  | v :: vs => below n v && belowL n vs
end

def belowB (n : Nat) : Blk → Bool
  | .cells _ cs => belowL n cs
  | .ro cs => belowL n cs
  | .mapo kv => kv.all fun p => below n p.1 && below n p.2

mutual
theorem vok_below {U U' : Nat → Prop} {μ : Map} {n : Nat} (hU : ∀ b, U b → b < n → U' b) : ∀ v : AV, vok U μ v → below n v = true → vok U' μ v
  | .bool _, _, _ | .int _ _, _, _ | .str _, _, _ | .nilp, _, _ | .nilsl, _, _ | .nilfn, _, _ | .nilif, _, _ | .raw _, _, _ => by simp [vok]
  | .ptr b _, h, hb => by simp only [vok] at h ⊢; exact hU b h (blt_lt hb)
  | .sl b off lo len cap, h, hb => by simp only [vok] at h ⊢; exact ⟨hU b h.1 (blt_lt hb), h.2⟩
  | .mp b, h, hb => by simp only [vok] at h ⊢; exact hU b h (blt_lt hb)
  | .fn f a c, h, hb => by
    simp only [vok] at h ⊢
    simp only [below, Bool.and_eq_true] at hb
    exact ⟨vokL_below hU a h.1 hb.1, vokL_below hU c h.2 hb.2⟩
  | .iface t v, h, hb => by simp only [vok] at h ⊢; exact vok_below hU v h hb
  | .agg cs, h, hb => by simp only [vok] at h ⊢; exact vokL_below hU cs h hb
  | .tup cs, h, hb => by simp only [vok] at h ⊢; exact vokL_below hU cs h hb
theorem vokL_below {U U' : Nat → Prop} {μ : Map} {n : Nat} (hU : ∀ b, U b → b < n → U' b) : ∀ l : List AV, vokL U μ l → belowL n l = true → vokL U' μ l
  | [], _, _ => by simp [vokL]
  | v :: vs, h, hb => by
    simp only [vokL] at h ⊢
    simp only [belowL, Bool.and_eq_true] at hb
    exact ⟨vok_below hU v h.1 hb.1, vokL_below hU vs h.2 hb.2⟩
end

theorem belowL_mem {n : Nat} : ∀ {l : List AV}, belowL n l = true → ∀ v ∈ l, below n v = true
  | v :: vs, h, u, hu => by
    simp only [belowL, Bool.and_eq_true] at h
    rcases List.mem_cons.1 hu with rfl | hu
    · exact h.1
    · exact belowL_mem h.2 u hu

theorem BlkOk.below {U U' : Nat → Prop} {μ : Map} {n : Nat} (hU : ∀ b, U b → b < n → U' b) {k : Blk} (h : BlkOk U μ k) (hb : belowB n k = true) : BlkOk U' μ k := by
  cases k with
  | cells e cs => exact fun v hv => vok_below hU v (h v hv) (belowL_mem hb v hv)
  | ro cs => exact fun v hv => vok_below hU v (h v hv) (belowL_mem hb v hv)
  | mapo kv =>
    intro p hp
    have := List.all_eq_true.1 hb p hp
    simp only [Bool.and_eq_true] at this
    exact ⟨vok_below hU _ (h p hp).1 this.1, vok_below hU _ (h p hp).2 this.2⟩

/-- A heap all of whose names lie below n. -/
def HBelow (n : Nat) (h : Heap) : Prop := ∀ b k, h b = some k → b < n ∧ belowB n k = true

section
variable {P : Program} {G : Nat} {U : Nat → Prop} {μ μ' : Map} {h h' h0' : Heap} {w w' : World} {n n' : Nat}

def U0 (U : Nat → Prop) (n : Nat) : Nat → Prop := fun x => U x ∧ x < n

theorem Rel.small (hG : G ≤ n) (r : Rel G U μ h w) (hh : HBelow n h) : Rel G (U0 U n) μ h w :=
  ⟨fun g hg => ⟨⟨(r.glob g hg).1, by omega⟩, (r.glob g hg).2⟩, fun b k hb => ⟨r.used b k hb, (hh b k hb).1⟩, r.at_,
   fun b k hb => (r.ok b k hb).below (fun _ h1 h2 => ⟨h1, h2⟩) (hh b k hb).2, r.inj⟩

theorem forget (r : Rel G U μ h w) (r' : Rel G (UI (U0 U n) n n') μ' h' w') (e : Ext (U0 U n) μ h w (UI (U0 U n) n n') μ' h' w')
    (hs : ∀ b k, h0' b = some k → h' b = some k) (hb : HBelow n h0') : Rel G U μ h0' w' ∧ Ext U μ h w U μ h0' w' := by
  have toU : ∀ b, UI (U0 U n) n n' b → b < n → U0 U n b := by
    rintro b (h1 | h1) h2
    · exact h1
    · omega
  have ag : ∀ b, U0 U n b → μ b = μ' b := fun b hb => (e.agree b hb).symm
  have used : ∀ b k, h0' b = some k → U0 U n b := fun b k hk => toU b (r'.used b k (hs b k hk)) (hb b k hk).1
  have ok : ∀ b k, h0' b = some k → BlkOk (U0 U n) μ' k := fun b k hk => (r'.ok b k (hs b k hk)).below toU (hb b k hk).2
  refine ⟨⟨r.glob, fun b k hk => (used b k hk).1, fun b k hk => ?_, fun b k hk => ?_, fun x y k k' hx hy hw he => ?_⟩, ⟨fun _ h => h, fun _ _ => rfl, e.size, e.frame, fun b k hk hw => ?_, fun b cs hk => e.ro b cs (hs b _ hk), e.os, e.tape, e.output⟩⟩
  · exact (r'.at_ b k (hs b k hk)).congr ag (used b k hk) (ok b k hk) rfl
  · exact (ok b k hk).mono (fun _ h => h.1) ag
  · rw [ag x (used x k hx), ag y (used y k' hy)] at he
    exact r'.inj x y k k' (hs x k hx) (hs y k' hy) hw he
  · rw [ag b (used b k hk)]
    exact e.img b k (hs b k hk) hw

/-- A call, of which no new name is kept. -/
theorem FEv.forget {f : FuncId} {args : List AV} {v : AV} (hf : FEv P f args h n v h' n') (hG : P.globals.size ≤ n) (ha : belowL n args = true) (hh : HBelow n h) (hv : below n v = true)
    (hs : ∀ b k, h0' b = some k → h' b = some k) (hb : HBelow n h0') (m : Nat) : FEv P f args h m v h0' m := by
  refine ⟨Nat.le_refl _, fun U μ w K hav r hva hk => ?_⟩
  rw [UI_self] at hk
  refine hf.2 (U0 U n) μ w K (fun x h1 h2 hx => by have := hx.2; omega) (r.small hG hh) (fun u hu => vok_below (fun _ h1 h2 => ⟨h1, h2⟩) u (hva u hu) (belowL_mem ha u hu)) fun μ' w' r' e hv' => ?_
  obtain ⟨r1, e1⟩ := Go.Eng.forget r r' e hs hb
  have toU : ∀ b, UI (U0 U n) n n' b → b < n → U0 U n b := by
    rintro b (h1 | h1) h2
    · exact h1
    · omega
  have hv2 := vok_below toU v hv' hv
  have ag : ∀ b, U0 U n b → μ b = μ' b := fun b hb => (e.agree b hb).symm
  have := hk μ w' r1 e1 (vok_mono (fun _ h => h.1) ag v hv2)
  rwa [conc_congr ag v hv2] at this

/-- A call goes on in a greater heap. -/
theorem FEv.frame {f : FuncId} {args : List AV} {v : AV} {h0 : Heap} (hf : FEv P f args h0 n v h' n') (hsub : ∀ x k, h0 x = some k → h x = some k) : FEv P f args h n v (weave h0 h h' n n') n' := by
  refine ⟨hf.1, fun U μ w K hav r hva hk => ?_⟩
  refine hf.2 U μ w K hav (r.restrict hsub) hva fun μ' w' r' e hv => ?_
  obtain ⟨h1, h2⟩ := Rel.frame hav hsub r r' e
  exact hk μ' w' h1 h2 hv

/-- Code, of which no new name is kept. -/
theorem Ev.forget {c : Code} {a a' : List AV} {e : Exit} (hc : Ev P c a h n e a' h' n') (hG : P.globals.size ≤ n) (ha : belowL n a = true) (hh : HBelow n h) (ha' : belowL n a' = true)
    (hs : ∀ b k, h0' b = some k → h' b = some k) (hb : HBelow n h0') (m : Nat) : Ev P c a h m e a' h0' m := by
  refine ⟨Nat.le_refl _, fun U μ w act Q hav r ht hv hd hq => ?_⟩
  rw [UI_self] at hq
  refine hc.2 (U0 U n) μ w act Q (fun x h1 h2 hx => by have := hx.2; omega) (r.small hG hh) ht (fun u hu => vok_below (fun _ h1 h2 => ⟨h1, h2⟩) u (hv u hu) (belowL_mem ha u hu)) hd fun μ' act' w' r' ht' hv' hd' e' => ?_
  obtain ⟨r1, e1⟩ := Go.Eng.forget r r' e' hs hb
  have toU : ∀ b, UI (U0 U n) n n' b → b < n → U0 U n b := by
    rintro b (h1 | h1) h2
    · exact h1
    · omega
  have ag : ∀ b, U0 U n b → μ b = μ' b := fun b hb => (e'.agree b hb).symm
  have hv2 : ∀ u ∈ a', vok (U0 U n) μ' u := fun u hu => vok_below toU u (hv' u hu) (belowL_mem ha' u hu)
  refine hq μ act' w' r1 ?_ (fun u hu => vok_mono (fun _ h => h.1) ag u (hv2 u hu)) hd' e1
  rw [ht']
  exact (List.map_congr_left fun u hu => conc_congr ag u (hv2 u hu)).symm

/-- Code goes on in a greater heap. -/
theorem Ev.frame {c : Code} {a a' : List AV} {e : Exit} {h0 : Heap} (hc : Ev P c a h0 n e a' h' n') (hsub : ∀ x k, h0 x = some k → h x = some k) : Ev P c a h n e a' (weave h0 h h' n n') n' := by
  refine ⟨hc.1, fun U μ w act Q hav r ht hv hd hq => ?_⟩
  refine hc.2 U μ w act Q hav (r.restrict hsub) ht hv hd fun μ' act' w' r' ht' hv' hd' e' => ?_
  obtain ⟨h1, h2⟩ := Rel.frame hav hsub r r' e'
  exact hq μ' act' w' h1 ht' hv' hd' h2

end
end Go.Eng
