/- Engine, part 14: a step of an operation in a heap; framing. -/
import Derived.Test.YthbbncgbbkcdgaaGreatDoorE13
namespace Go.Eng
open Go

def UI (U : Nat → Prop) (n n' : Nat) : Nat → Prop := fun x => U x ∨ (n ≤ x ∧ x < n')
def Avoid (U : Nat → Prop) (n n' : Nat) : Prop := ∀ x, n ≤ x → x < n' → ¬ U x

theorem UI_self (U : Nat → Prop) (n : Nat) : UI U n n = U := by
  funext x; simp only [UI]; apply propext; constructor
  · rintro (h | h)
    · exact h
    · omega
  · exact .inl

theorem UI_UI (U : Nat → Prop) {a b c : Nat} (h1 : a ≤ b) (h2 : b ≤ c) : UI (UI U a b) b c = UI U a c := by
  funext x; simp only [UI]; apply propext; constructor
  · rintro ((h | h) | h)
    · exact .inl h
    · exact .inr (by omega)
    · exact .inr (by omega)
  · rintro (h | h)
    · exact .inl (.inl h)
    · by_cases hx : x < b
      · exact .inl (.inr (by omega))
      · exact .inr (by omega)

theorem UI_one (U : Nat → Prop) (n : Nat) : UI U n (n + 1) = Un U n := by
  funext x; simp only [UI, Un]; apply propext; constructor
  · rintro (h | h)
    · exact .inl h
    · exact .inr (by omega)
  · rintro (h | h)
    · exact .inl h
    · exact .inr (by omega)

theorem UI_news (U : Nat → Prop) (n : Nat) (eff : Eff) : UI U n (n + eff.news) = UA U n eff := by
  cases eff <;> simp only [Eff.news, UA, Nat.add_zero] <;> first
    | exact UI_self U n
    | exact UI_one U n

theorem Avoid.mono {U : Nat → Prop} {a b c d : Nat} (h : Avoid U a d) (h1 : a ≤ b) (h2 : c ≤ d) : Avoid U b c := fun x hx hx' => h x (by omega) (by omega)
theorem Avoid.next {U : Nat → Prop} {a b c : Nat} (h : Avoid U a c) (h1 : a ≤ b) : Avoid (UI U a b) b c := by
  rintro x hx hx' (hu | hu)
  · exact h x (by omega) hx' hu
  · omega

/-- A step of one operation, in the abstract: from the heap h it hands on the value v and leaves the heap h'; the names of new blocks lie from n on below n'. -/
def OpEv (P : Program) (o : Oper) (a : List AV) (h : Heap) (n : Nat) (v : AV) (h' : Heap) (n' : Nat) : Prop :=
  n ≤ n' ∧ ∀ (U : Nat → Prop) (μ : Map) (w : World) (act : Act) (K : Act → World → Prop) (Q : Exit → Act → World → Prop), Avoid U n n' → Rel P.globals.size U μ h w →
    Says o.op act.eval μ a → OkOps o.op U μ a →
    (∀ μ' w', Rel P.globals.size (UI U n n') μ' h' w' → Ext U μ h w (UI U n n') μ' h' w' → vok (UI U n n') μ' v → K (act.put o.dst (conc μ' v)) w') → o.wp P act w K Q

theorem undef_conc (μ : Map) : conc μ undefA = undef := by simp [undefA, undef, conc, concL]

theorem OpEv.of_aop {P : Program} {o : Oper} {ro : ROp} (hc : cop P o.type o.op = some ro) {a : List AV} {h : Heap} {n : Nat} {v : AV} {rd : List Nat} {eff : Eff} (he : aop P a h n ro = some (v, rd, eff)) :
    OpEv P o a h n v (applyEff n h eff) (n + eff.news) := by
  refine ⟨by omega, fun U μ w act K Q hav r hs ha hk => ?_⟩
  obtain ⟨w', μ', hr, hrel, hext, hv⟩ := cop_sound hc act.eval a μ U h w n v rd eff hs ha r (fun hn => hav n (Nat.le_refl _) (by omega)) he
  have := hk μ' w' (by rw [UI_news]; exact hrel) (by rw [UI_news]; exact hext) (by rw [UI_news]; exact hv)
  unfold Oper.wp
  rcases hr with hr | ⟨hr, hu⟩
  · rw [hr, Oper.upon_value]; exact this
  · rw [hr, Oper.upon_skip]
    subst hu
    rwa [undef_conc] at this

/-! ### Framing -/

/-- A piece of a heap. -/
def sub (F : Nat → Bool) (h : Heap) : Heap := fun x => if F x then h x else none

/-- What a heap becomes where a piece of it has turned. -/
def weave (h0 h h' : Heap) (n n' : Nat) : Heap := fun x => if (h0 x).isSome || (decide (n ≤ x) && decide (x < n')) then h' x else h x

theorem Rel.frame {G : Nat} {U : Nat → Prop} {μ μ' : Map} {h0 h h' : Heap} {w w' : World} {n n' : Nat} (hav : Avoid U n n') (hsub : ∀ x k, h0 x = some k → h x = some k) (r : Rel G U μ h w)
    (r' : Rel G (UI U n n') μ' h' w') (e : Ext U μ h0 w (UI U n n') μ' h' w') : Rel G (UI U n n') μ' (weave h0 h h' n n') w' ∧ Ext U μ h w (UI U n n') μ' (weave h0 h h' n n') w' := by
  -- what the woven heap holds
  have look : ∀ x k, weave h0 h h' n n' x = some k → h' x = some k ∨ (h0 x = none ∧ h x = some k) := by
    intro x k hx
    unfold weave at hx
    split at hx
    · exact .inl hx
    · rename_i hc
      refine .inr ⟨?_, hx⟩
      cases h0x : h0 x with
      | none => rfl
      | some k0 => simp [h0x] at hc
  -- a block beside the piece stays
  have stays : ∀ x k, h0 x = none → h x = some k → w'.heap[(μ x).blk]? = w.heap[(μ x).blk]? := by
    intro x k h1 h2
    refine e.frame _ (r.lt h2) fun b k0 hb hw0 he => ?_
    have := r.inj b x k0 k (hsub b k0 hb) h2 hw0 he
    subst this
    rw [h1] at hb; cases hb
  refine ⟨⟨?_, ?_, ?_, ?_, ?_⟩, ⟨fun b hb => .inl hb, e.agree, e.size, ?_, ?_, ?_, e.os, e.tape, e.output⟩⟩
  · exact fun g hg => r'.glob g hg
  · intro x k hx
    rcases look x k hx with hx | ⟨_, hx⟩
    · exact r'.used x k hx
    · exact .inl (r.used x k hx)
  · intro x k hx
    rcases look x k hx with hx | ⟨h1, hx⟩
    · exact r'.at_ x k hx
    · exact (r.at_ x k hx).congr e.agree (r.used x k hx) (r.ok x k hx) (stays x k h1 hx)
  · intro x k hx
    rcases look x k hx with hx | ⟨_, hx⟩
    · exact r'.ok x k hx
    · exact (r.ok x k hx).mono (fun _ h => .inl h) e.agree
  · -- no two names for one block
    have mix : ∀ x y k k', h' x = some k → (h0 y = none ∧ h y = some k') → (k.wr = true ∨ k'.wr = true) → (μ' x).blk = (μ' y).blk → x = y := by
      intro x y k k' hx hy hw he
      rw [e.agree y (r.used y k' hy.2)] at he
      cases hk : k.wr with
      | true =>
        rcases e.img x k hx hk with ⟨b0, k0, hb0, hw0, e0⟩ | hs
        · have := r.inj b0 y k0 k' (hsub b0 k0 hb0) hy.2 hw0 (e0.trans he)
          subst this
          rw [hy.1] at hb0; cases hb0
        · have := r.lt hy.2; omega
      | false =>
        have hw' : k'.wr = true := hw.resolve_left (by rw [hk]; simp)
        cases k with
        | ro cs =>
          have h0x := e.ro x cs hx
          rw [e.agree x (r.used x _ (hsub x _ h0x))] at he
          exact (r.inj y x k' _ hy.2 (hsub x _ h0x) hw' he.symm).symm
        | cells => cases hk
        | mapo => cases hk
    intro x y k k' hx hy hw he
    rcases look x k hx with hx | hx <;> rcases look y k' hy with hy | hy
    · exact r'.inj x y k k' hx hy hw he
    · exact mix x y k k' hx hy (.inl hw) he
    · exact (mix y x k' k hy hx (.inr hw) he.symm).symm
    · rw [e.agree x (r.used x k hx.2), e.agree y (r.used y k' hy.2)] at he
      exact r.inj x y k k' hx.2 hy.2 hw he
  · intro B hB hnot
    exact e.frame B hB fun b k hb hw => hnot b k (hsub b k hb) hw
  · intro x k hx hw
    rcases look x k hx with hx | ⟨_, hx⟩
    · rcases e.img x k hx hw with ⟨b0, k0, hb0, hw0, e0⟩ | hs
      · exact .inl ⟨b0, k0, hsub b0 k0 hb0, hw0, e0⟩
      · exact .inr hs
    · exact .inl ⟨x, k, hx, hw, by rw [e.agree x (r.used x k hx)]⟩
  · intro x cs hx
    rcases look x _ hx with hx | ⟨_, hx⟩
    · exact hsub x _ (e.ro x cs hx)
    · exact hx

/-- A step goes on in a greater heap. -/
theorem OpEv.frame {P : Program} {o : Oper} {a : List AV} {h0 : Heap} {n : Nat} {v : AV} {h' : Heap} {n' : Nat} (hev : OpEv P o a h0 n v h' n') (h : Heap) (hsub : ∀ x k, h0 x = some k → h x = some k) :
    OpEv P o a h n v (weave h0 h h' n n') n' := by
  refine ⟨hev.1, fun U μ w act K Q hav r hs ha hk => ?_⟩
  refine hev.2 U μ w act K Q hav (r.restrict hsub) hs ha fun μ' w' r' e hv => ?_
  obtain ⟨h1, h2⟩ := Rel.frame hav hsub r r' e
  exact hk μ' w' h1 h2 hv

end Go.Eng
