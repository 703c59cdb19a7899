/- Engine, part 17: the judgement on code, and on calls. -/
import Derived.Test.YthbbncgbbkcdgaaGreatDoorE16
import Derived.LoopN
namespace Go.Eng
open Go

/-- From these temporaries and this heap the code comes to its end so, with these temporaries and this heap. -/
def Ev (P : Program) (c : Code) (a : List AV) (h : Heap) (n : Nat) (e : Exit) (a' : List AV) (h' : Heap) (n' : Nat) : Prop :=
  n ≤ n' ∧ ∀ (U : Nat → Prop) (μ : Map) (w : World) (act : Act) (Q : Exit → Act → World → Prop), Avoid U n n' → Rel P.globals.size U μ h w → act.tmps.toList = a.map (conc μ) → (∀ u ∈ a, vok U μ u) → act.defers = [] →
    (∀ μ' act' w', Rel P.globals.size (UI U n n') μ' h' w' → act'.tmps.toList = a'.map (conc μ') → (∀ u ∈ a', vok (UI U n n') μ' u) → act'.defers = [] → Ext U μ h w (UI U n n') μ' h' w' → Q e act' w') → c.wp P Q act w

/-- A call, in the abstract. -/
def ECall (P : Program) (f : FuncId) (args : List AV) (h : Heap) (n : Nat) (v : AV) (h' : Heap) (n' : Nat) : Prop :=
  n ≤ n' ∧ ∀ (U : Nat → Prop) (μ : Map) (w : World), Avoid U n n' → Rel P.globals.size U μ h w → (∀ u ∈ args, vok U μ u) →
    Calls P f (args.map (conc μ)).toArray w fun e w' => ∃ μ', e = .returned (conc μ' v) ∧ Rel P.globals.size (UI U n n') μ' h' w' ∧ Ext U μ h w (UI U n n') μ' h' w' ∧ vok (UI U n n') μ' v

section
variable {P : Program} {a a1 a2 : List AV} {h h1 h2 : Heap} {n n1 n2 : Nat} {e : Exit}

theorem Ev.seq {x y : Code} (h1' : Ev P x a h n .normal a1 h1 n1) (h2' : Ev P y a1 h1 n1 e a2 h2 n2) : Ev P (.seq x y) a h n e a2 h2 n2 := by
  refine ⟨Nat.le_trans h1'.1 h2'.1, fun U μ w act Q hav r ht hv hd hq => wp_seq ?_⟩
  refine h1'.2 U μ w act _ (hav.mono (Nat.le_refl _) h2'.1) r ht hv hd fun μ' act' w' r' ht' hv' hd' e' => ?_
  refine h2'.2 _ μ' w' act' Q (hav.next h1'.1) r' ht' hv' hd' fun μ'' act'' w'' r'' ht'' hv'' hd'' e'' => ?_
  rw [UI_UI U h1'.1 h2'.1] at r'' hv'' e''
  exact hq μ'' act'' w'' r'' ht'' hv'' hd'' (e'.trans e'')

theorem then_out {K : Act → World → Prop} {Q : Exit → Act → World → Prop} (he : e ≠ .normal) {act : Act} {w : World} (hq : Q e act w) : Exit.then K Q e act w := by
  cases e <;> first
    | exact absurd rfl he
    | exact hq

theorem Ev.seq_out {x y : Code} (h1' : Ev P x a h n e a1 h1 n1) (he : e ≠ .normal) : Ev P (.seq x y) a h n e a1 h1 n1 := by
  refine ⟨h1'.1, fun U μ w act Q hav r ht hv hd hq => wp_seq ?_⟩
  exact h1'.2 U μ w act _ hav r ht hv hd fun μ' act' w' r' ht' hv' hd' e' => then_out he (hq μ' act' w' r' ht' hv' hd' e')

theorem Ev.cond {c : Operand} {x y : Code} {b : Bool} (hb : ev a (cx c) = .bool b) (h1' : Ev P (if b then x else y) a h n e a1 h1 n1) : Ev P (.cond c x y) a h n e a1 h1 n1 := by
  refine ⟨h1'.1, fun U μ w act Q hav r ht hv hd hq => wp_cond (t := b) ?_ (h1'.2 U μ w act Q hav r ht hv hd hq)⟩
  rw [eval_says ht c, hb]; simp [conc]

theorem Ev.block {id : Nat} {c : Code} (h1' : Ev P c a h n e a1 h1 n1) (he : e ≠ .exit id) : Ev P (.block id c) a h n e a1 h1 n1 := by
  refine ⟨h1'.1, fun U μ w act Q hav r ht hv hd hq => wp_block ?_⟩
  refine h1'.2 U μ w act _ hav r ht hv hd fun μ' act' w' r' ht' hv' hd' e' => ?_
  have := hq μ' act' w' r' ht' hv' hd' e'
  cases e with
  | exit id' =>
    have : id' ≠ id := fun e => he (by rw [e])
    simp only [Exit.inBlock, this, if_false]; assumption
  | _ => exact this

theorem Ev.block_exit {id : Nat} {c : Code} (h1' : Ev P c a h n (.exit id) a1 h1 n1) : Ev P (.block id c) a h n .normal a1 h1 n1 := by
  refine ⟨h1'.1, fun U μ w act Q hav r ht hv hd hq => wp_block ?_⟩
  refine h1'.2 U μ w act _ hav r ht hv hd fun μ' act' w' r' ht' hv' hd' e' => ?_
  simp only [Exit.inBlock, if_true]
  exact hq μ' act' w' r' ht' hv' hd' e'

/-- k rounds of a loop. -/
def EvL (P : Program) (c : Code) (k : Nat) (a : List AV) (h : Heap) (n : Nat) (e : Exit) (a' : List AV) (h' : Heap) (n' : Nat) : Prop :=
  n ≤ n' ∧ ∀ (U : Nat → Prop) (μ : Map) (w : World) (act : Act) (Q : Exit → Act → World → Prop), Avoid U n n' → Rel P.globals.size U μ h w → act.tmps.toList = a.map (conc μ) → (∀ u ∈ a, vok U μ u) → act.defers = [] →
    (∀ μ' act' w', Rel P.globals.size (UI U n n') μ' h' w' → act'.tmps.toList = a'.map (conc μ') → (∀ u ∈ a', vok (UI U n n') μ' u) → act'.defers = [] → Ext U μ h w (UI U n n') μ' h' w' → Q e act' w') → Code.rounds P c Q k act w

theorem EvL.out {c : Code} {k : Nat} (h1' : Ev P c a h n e a1 h1 n1) (he : e ≠ .normal) : EvL P c (k + 1) a h n e a1 h1 n1 := by
  refine ⟨h1'.1, fun U μ w act Q hav r ht hv hd hq => ?_⟩
  rw [rounds_succ]
  exact h1'.2 U μ w act _ hav r ht hv hd fun μ' act' w' r' ht' hv' hd' e' => then_out he (hq μ' act' w' r' ht' hv' hd' e')

theorem EvL.next {c : Code} {k : Nat} (h1' : Ev P c a h n .normal a1 h1 n1) (h2' : EvL P c k a1 h1 n1 e a2 h2 n2) : EvL P c (k + 1) a h n e a2 h2 n2 := by
  refine ⟨Nat.le_trans h1'.1 h2'.1, fun U μ w act Q hav r ht hv hd hq => ?_⟩
  rw [rounds_succ]
  refine h1'.2 U μ w act _ (hav.mono (Nat.le_refl _) h2'.1) r ht hv hd fun μ' act' w' r' ht' hv' hd' e' => ?_
  refine h2'.2 _ μ' w' act' Q (hav.next h1'.1) r' ht' hv' hd' fun μ'' act'' w'' r'' ht'' hv'' hd'' e'' => ?_
  rw [UI_UI U h1'.1 h2'.1] at r'' hv'' e''
  exact hq μ'' act'' w'' r'' ht'' hv'' hd'' (e'.trans e'')

theorem EvL.done {c : Code} {k : Nat} (h1' : EvL P c k a h n e a1 h1 n1) : Ev P (.loop c) a h n e a1 h1 n1 :=
  ⟨h1'.1, fun U μ w act Q hav r ht hv hd hq => wp_loop_rounds k (h1'.2 U μ w act Q hav r ht hv hd hq)⟩

theorem Ev.self {c : Code} (hw : ∀ Q act w, Q e act w → c.wp P Q act w) : Ev P c a h n e a h n := by
  refine ⟨Nat.le_refl _, fun U μ w act Q hav r ht hv hd hq => hw Q act w ?_⟩
  exact hq μ act w (by rw [UI_self]; exact r) ht (by rw [UI_self]; exact hv) hd (by rw [UI_self]; exact Ext.refl _ _ _ _)

theorem Ev.skip : Ev P .skip a h n .normal a h n := Ev.self fun _ _ _ => wp_skip
theorem Ev.exit {id : Nat} : Ev P (.exit id) a h n (.exit id) a h n := Ev.self fun _ _ _ => wp_exit
theorem Ev.ret : Ev P .ret a h n .ret a h n := Ev.self fun _ _ _ => wp_ret

/-! ### Regions in the order of the text -/

/-- The operations from here on, one behind the other. -/
def EvOps (P : Program) (ops : Array Oper) (l : List Nat) (a : List AV) (h : Heap) (n : Nat) (a' : List AV) (h' : Heap) (n' : Nat) : Prop :=
  n ≤ n' ∧ ∀ (U : Nat → Prop) (μ : Map) (w : World) (act : Act) (Q : Exit → Act → World → Prop), Avoid U n n' → Rel P.globals.size U μ h w → act.tmps.toList = a.map (conc μ) → (∀ u ∈ a, vok U μ u) → act.defers = [] →
    (∀ μ' act' w', Rel P.globals.size (UI U n n') μ' h' w' → act'.tmps.toList = a'.map (conc μ') → (∀ u ∈ a', vok (UI U n n') μ' u) → act'.defers = [] → Ext U μ h w (UI U n n') μ' h' w' → Q .normal act' w') → wpOps P ops Q l act w

theorem EvOps.nil {ops : Array Oper} : EvOps P ops [] a h n a h n := by
  refine ⟨Nat.le_refl _, fun U μ w act Q hav r ht hv hd hq => ?_⟩
  simp only [wpOps]
  exact hq μ act w (by rw [UI_self]; exact r) ht (by rw [UI_self]; exact hv) hd (by rw [UI_self]; exact Ext.refl _ _ _ _)

theorem slots_say {act : Act} {μ : Map} (ht : act.tmps.toList = a.map (conc μ)) (o : Oper) (ops : Array Oper) : ∀ t ∈ o.looksAt ops, ∀ u, a[t]? = some u → act.tmps[t]? = some (conc μ u) := by
  intro t _ u hu
  rw [← Array.getElem?_toList, ht, List.getElem?_map, hu]; rfl

theorem EvOps.step {ops : Array Oper} {i : Nat} {l : List Nat} {o : Oper} {v : AV} (ho : ops[i]? = some o) (hw : wantedA ops a o = some true) (h1' : OpEv P o a h n v h1 n1) (h2' : EvOps P ops l (putA a o.dst v) h1 n1 a2 h2 n2) :
    EvOps P ops (i :: l) a h n a2 h2 n2 := by
  refine ⟨Nat.le_trans h1'.1 h2'.1, fun U μ w act Q hav r ht hv hd hq => ?_⟩
  simp only [wpOps, ho, wanted_of hw (slots_say ht o ops), if_true]
  refine .inl (h1'.2 U μ w act _ Q (hav.mono (Nat.le_refl _) h2'.1) r (fun x _ => eval_says ht x) (fun x _ => vok_ev hv x) fun μ' w' r' e' hv' => ?_)
  refine h2'.2 _ μ' w' _ Q (hav.next h1'.1) r' (put_says ht hv e'.agree o.dst v) (fun u hu => ?_) (by rw [put_defers]; exact hd) fun μ'' act'' w'' r'' ht'' hv'' hd'' e'' => ?_
  · rcases mem_putA hu with hu | rfl
    · exact vok_mono e'.sub e'.agree u (hv u hu)
    · exact hv'
  · rw [UI_UI U h1'.1 h2'.1] at r'' hv'' e''
    exact hq μ'' act'' w'' r'' ht'' hv'' hd'' (e'.trans e'')

theorem EvOps.skip {ops : Array Oper} {i : Nat} {l : List Nat} {o : Oper} (ho : ops[i]? = some o) (hw : wantedA ops a o = some false) (h2' : EvOps P ops l (putA a o.dst undefA) h n a2 h2 n2) :
    EvOps P ops (i :: l) a h n a2 h2 n2 := by
  refine ⟨h2'.1, fun U μ w act Q hav r ht hv hd hq => ?_⟩
  simp only [wpOps, ho, wanted_of hw (slots_say ht o ops), Bool.false_eq_true, if_false]
  refine h2'.2 U μ w _ Q hav r ?_ (fun u hu => ?_) (by rw [put_defers]; exact hd) hq
  · have := put_says (μ' := μ) ht hv (fun _ _ => rfl) o.dst undefA
    rwa [undef_conc] at this
  · rcases mem_putA hu with hu | rfl
    · exact hv u hu
    · simp [undefA, vok, vokL]

theorem EvOps.region {ops : Array Oper} {id : Nat} (h1' : EvOps P ops (List.range ops.size) a h n a1 h1 n1) : Ev P (.region id ops false) a h n .normal a1 h1 n1 :=
  ⟨h1'.1, fun U μ w act Q hav r ht hv hd hq => wp_region (h1'.2 U μ w act Q hav r ht hv hd hq)⟩

theorem Lex.ev {ops : Array Oper} {a : Nat → List AV} {H : Nat → Heap} {n : Nat → Nat} {v : Nat → AV} {F D : Nat → Nat → Bool} (lx : Lex P ops a H n v F D) (hm : P.follows .mixedOrders = true) {id : Nat} :
    Ev P (.region id ops true) (a 0) (H 0) (n 0) .normal (a ops.size) (H ops.size) (n ops.size) :=
  ⟨lx.mono (Nat.zero_le _) (Nat.le_refl _), fun _ _ _ _ _ hav r ht hv hd hq => lx.region hm hav r ht hv hd hq⟩

/-! ### Calls -/

/-- What a function's results are. -/
def resA (P : Program) (a : List AV) (h : Heap) : ResultVar → Option AV
  | .tmp t => some (a.getD t undefA)
  | .cell p t => match a.getD p undefA, aggOf P t, P.info? t with
    | .ptr b off, some g, some i => (rdOf (h b)).bind fun cs => partA g cs off i.size
    | _, _, _ => none

def resultsA (P : Program) (rs : Array ResultVar) (a : List AV) (h : Heap) : Option AV :=
  (rs.toList.mapM (resA P a h)).map fun vs => match vs with
    | [v] => v
    | vs => .tup vs

theorem getD_says {act : Act} {μ : Map} (ht : act.tmps.toList = a.map (conc μ)) (t : Nat) : act.tmps.getD t undef = conc μ (a.getD t undefA) := by
  have := eval_says ht (.tmp t)
  simpa [Act.eval, cx, ev] using this

def resRun (tmps : Array Value) : ResultVar → Sem Value
  | .tmp t => pure (tmps.getD t undef)
  | .cell p t => do loadVar t (← asAddr (tmps.getD p undef))

theorem results_eq (fn : Func) (tmps : Array Value) : results fn tmps = (do
    let vs ← fn.results.mapM (resRun tmps)
    pure (if h : vs.size = 1 then vs[0] else .tuple vs)) := by
  unfold results
  congr 1

theorem run_resA {act : Act} {μ : Map} {U : Nat → Prop} {w : World} (r : Rel P.globals.size U μ h w) (ht : act.tmps.toList = a.map (conc μ)) (hv : ∀ u ∈ a, vok U μ u) {rv : ResultVar} {v : AV} (hr : resA P a h rv = some v) :
    (resRun act.tmps rv).run P w = .ok (conc μ v) w ∧ vok U μ v := by
  cases rv with
  | tmp t =>
    simp only [resA, Option.some.injEq] at hr
    subst hr
    exact ⟨by simp only [resRun, getD_says ht t]; rfl, vok_ev hv (.tmp t)⟩
  | cell p t =>
    simp only [resA] at hr
    split at hr
    case h_2 => cases hr
    rename_i b off g i hp hg hi
    simp only [Option.bind_eq_some_iff] at hr
    obtain ⟨cs, hb, hpt⟩ := hr
    obtain ⟨k, hk1, hk2⟩ := rdOf_some hb
    have hat := r.at_ b _ hk1
    have hok : ∀ v ∈ cs, vok U μ v := ok_at (r.ok b _ hk1) hk2
    refine ⟨?_, vok_partA hpt hok⟩
    simp only [resRun, getD_says ht p, hp, conc, asAddr, Sem.run_bind, Sem.run_pure, Result.andThen_ok]
    unfold partA at hpt
    cases g with
    | true =>
      simp only [if_true] at hpt
      split at hpt
      case isFalse => cases hpt
      rename_i hl
      cases hpt
      simp [loadVar, run_aggOf hg, sizeOf, typeInfo, hi, run_load_cells hat hk2 hl, conc_agg]
    | false =>
      simp only [Bool.false_eq_true, if_false] at hpt
      simp [loadVar, run_aggOf hg, cell_at hat hk2 hpt]

theorem run_resultsA {act : Act} {μ : Map} {U : Nat → Prop} {w : World} {fn : Func} (r : Rel P.globals.size U μ h w) (ht : act.tmps.toList = a.map (conc μ)) (hv : ∀ u ∈ a, vok U μ u) {v : AV} (hr : resultsA P fn.results a h = some v) :
    (results fn act.tmps).run P w = .ok (conc μ v) w ∧ vok U μ v := by
  unfold resultsA at hr
  simp only [Option.map_eq_some_iff] at hr
  obtain ⟨vs, hvs, hv'⟩ := hr
  have key : ∀ (l : List ResultVar) (vs : List AV), l.mapM (resA P a h) = some vs →
      (l.mapM (resRun act.tmps)).run P w = .ok (vs.map (conc μ)) w ∧ ∀ v ∈ vs, vok U μ v := by
    intro l
    induction l with
    | nil => intro vs h; simp at h; subst h; simp
    | cons rv l ih =>
      intro vs h
      rw [List.mapM_cons] at h
      simp only [Option.bind_eq_bind, Option.bind_eq_some_iff, Option.pure_def, Option.some.injEq] at h
      obtain ⟨u, hu, us, hus, rfl⟩ := h
      obtain ⟨i1, i2⟩ := ih us hus
      obtain ⟨r1, r2⟩ := run_resA r ht hv hu
      refine ⟨?_, fun x hx => ?_⟩
      · simp only [List.mapM_cons, Sem.run_bind]
        rw [r1]
        simp only [Result.andThen_ok]
        rw [i1]
        simp
      · rcases List.mem_cons.1 hx with rfl | hx
        · exact r2
        · exact i2 x hx
  obtain ⟨k1, k2⟩ := key fn.results.toList vs hvs
  constructor
  · rw [results_eq]
    simp only [Sem.run_bind, Array.mapM_eq_mapM_toList, Sem.run_map]
    rw [k1]
    simp only [Result.andThen_ok, Sem.run_pure]
    subst hv'
    split
    · rename_i hs
      match vs, hs with
      | [x], _ => simp
    · rename_i hs
      match vs, hs with
      | [], _ => simp [conc, concL]
      | [x], hs => simp at hs
      | x :: y :: l, _ => simp [conc, concL, concL_eq]
  · subst hv'
    match vs, k2 with
    | [], _ => simp [vok, vokL]
    | [x], k2 => exact k2 x (by simp)
    | x :: y :: l, k2 => simp only [vok]; exact vokL_iff.2 k2

theorem ECall.of_body {f : FuncId} {fn : Func} {c : Code} {args : List AV} {v : AV} (hf : P.funcs[f]? = some fn) (hb : fn.body = some c) (he : e = .normal ∨ e = .ret)
    (h1' : Ev P c (args ++ List.replicate (fn.ntmps - args.length) undefA) h n e a1 h1 n1) (hr : resultsA P fn.results a1 h1 = some v) : ECall P f args h n v h1 n1 := by
  refine ⟨h1'.1, fun U μ w hav r hv => calls_of_wp hf hb ?_⟩
  refine h1'.2 U μ w _ _ hav r ?_ (fun u hu => ?_) rfl fun μ' act' w' r' ht' hv' hd' e' => ?_
  · simp [undef_conc]
  · rcases List.mem_append.1 hu with hu | hu
    · exact hv u hu
    · rw [(List.mem_replicate.1 hu).2]; simp [undefA, vok, vokL]
  · obtain ⟨k1, k2⟩ := run_resultsA (fn := fn) r' ht' hv' hr
    rcases he with rfl | rfl
    · exact ⟨hd', _, k1, μ', rfl, r', e', k2⟩
    · exact ⟨hd', _, k1, μ', rfl, r', e', k2⟩

end
end Go.Eng
