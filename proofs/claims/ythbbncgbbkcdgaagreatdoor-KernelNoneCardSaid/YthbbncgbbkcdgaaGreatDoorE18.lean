/- Engine, part 18: operations that call. -/
import Derived.Test.YthbbncgbbkcdgaaGreatDoorE17
namespace Go.Eng
open Go

/-- What is asked once a function's name and arguments are known. -/
def FunUp (P : Program) (K : Value → World → Prop) : Result Next → Prop
  | .ok (.value v) w' => K v w'
  | .ok (.enter f args) w' => Calls P f args w' fun e w'' => ∃ v, e = .returned v ∧ K v w''
  | _ => False

/-- A function's call, with a body or without, in the abstract. -/
def FEv (P : Program) (f : FuncId) (args : List AV) (h : Heap) (n : Nat) (v : AV) (h' : Heap) (n' : Nat) : Prop :=
  n ≤ n' ∧ ∀ (U : Nat → Prop) (μ : Map) (w : World) (K : Value → World → Prop), Avoid U n n' → Rel P.globals.size U μ h w → (∀ u ∈ args, vok U μ u) →
    (∀ μ' w', Rel P.globals.size (UI U n n') μ' h' w' → Ext U μ h w (UI U n n') μ' h' w' → vok (UI U n n') μ' v → K (conc μ' v) w') →
    FunUp P K ((callFunc f (args.map (conc μ)).toArray).run P w)

def callable (P : Program) (f : FuncId) : Bool :=
  match P.funcs[f]? with
  | some fn => !(fn.name == "runtime.NumGoroutine") && fn.body.isSome
  | none => false

section
variable {P : Program} {a : List AV} {h h' : Heap} {n n' : Nat} {v : AV}

theorem run_callable {f : FuncId} (hc : callable P f = true) (args : Array Value) (w : World) : (callFunc f args).run P w = .ok (.enter f args) w := by
  unfold callable at hc
  cases hf : P.funcs[f]? with
  | none => simp [hf] at hc
  | some fn =>
    simp only [hf, Bool.and_eq_true, Bool.not_eq_true'] at hc
    have hb : fn.body.isNone = false := by
      cases hbb : fn.body with
      | none => simp [hbb] at hc
      | some b => rfl
    have h1 : ¬ fn.name = "runtime.NumGoroutine" := by simpa using hc.1
    have h2 : fn.body ≠ none := by intro hh; rw [hh] at hb; cases hb
    simp [callFunc, hf, h1, h2]

theorem FEv.of_call {f : FuncId} {args : List AV} (hc : callable P f = true) (he : ECall P f args h n v h' n') : FEv P f args h n v h' n' := by
  refine ⟨he.1, fun U μ w K hav r hv hk => ?_⟩
  rw [run_callable hc]
  refine (he.2 U μ w hav r hv).mono fun e w' => ?_
  rintro ⟨μ', rfl, r', e', v'⟩
  exact ⟨_, rfl, hk μ' w' r' e' v'⟩

theorem FEv.of_ext {f : FuncId} {args : List AV} (hx : ∀ μ w, (callFunc f (args.map (conc μ)).toArray).run P w = .ok (.value (conc μ v)) w) (hv : ∀ U μ, (∀ u ∈ args, vok U μ u) → vok U μ v) : FEv P f args h n v h n := by
  refine ⟨Nat.le_refl _, fun U μ w K hav r hva hk => ?_⟩
  rw [hx μ w]
  exact hk μ w (by rw [UI_self]; exact r) (by rw [UI_self]; exact Ext.refl _ _ _ _) (by rw [UI_self]; exact hv U μ hva)

theorem up_of_fun {o : Oper} {act : Act} {K : Act → World → Prop} {Q : Exit → Act → World → Prop} {rr : Result Next} (h : FunUp P (fun v w => K (act.put o.dst v) w) rr) : o.upon P act K Q rr := by
  cases rr with
  | ok x w =>
    cases x <;> simp only [FunUp] at h <;> simp only [Oper.upon] <;> first
      | exact h
      | (refine Calls.mono h fun e w' => ?_
         rintro ⟨v, rfl, hk⟩
         exact hk)
  | halt x w => simp only [FunUp] at h

section
variable {dst : Option Tmp} {type : TypeId} {pos : String} {after : Array Edge} {guard : Option (Nat × Bool)}

theorem OpEv.call {f : FuncId} {args : Array Operand} {at_ : Array TypeId} (he : FEv P f ((args.toList.map cx).map (ev a)) h n v h' n') :
    OpEv P ⟨dst, .call { callee := .value (.func f), args, argTypes := at_ }, type, pos, after, guard⟩ a h n v h' n' := by
  refine ⟨he.1, fun U μ w act K Q hav r hs ha hk => ?_⟩
  have hf : act.eval (.func f) = .func (.func f) #[] #[] := rfl
  have hargs := args_says (ρ := act.eval) (μ := μ) (a := a) (q := args) fun x hx => hs x (by simp [Op.operands, Call.operands, hx])
  have hva := vok_args (U := U) (μ := μ) (a := a) (q := args.toList) fun x hx => ha x (by simp [Op.operands, Call.operands, Array.mem_toList_iff.1 hx])
  have hrun : (execOp act.eval ⟨dst, .call { callee := .value (.func f), args, argTypes := at_ }, type, pos, after, guard⟩).run P w = (callFunc f ((((args.toList.map cx).map (ev a)).map (conc μ)).toArray)).run P w := by
    simp [execOp, resolve, Deferred.ofValue, hf, invoke, hargs]
  unfold Oper.wp
  rw [hrun]
  exact up_of_fun (he.2 U μ w _ hav r hva fun μ' w' r' e' v' => hk μ' w' r' e' v')

theorem OpEv.callv {f : FuncId} {g : Operand} {args : Array Operand} {at_ : Array TypeId} {first cap : List AV} (hg : ev a (cx g) = .fn (.func f) first cap) (he : FEv P f (first ++ ((args.toList.map cx).map (ev a)) ++ cap) h n v h' n') :
    OpEv P ⟨dst, .call { callee := .value g, args, argTypes := at_ }, type, pos, after, guard⟩ a h n v h' n' := by
  refine ⟨he.1, fun U μ w act K Q hav r hs ha hk => ?_⟩
  have hgs : act.eval g = .func (.func f) (first.map (conc μ)).toArray (cap.map (conc μ)).toArray := by
    rw [hs g (by simp [Op.operands, Call.operands]), hg]; simp [conc, concL_eq]
  have hgo := ha g (by simp [Op.operands, Call.operands])
  rw [hg] at hgo
  simp only [vok] at hgo
  have hargs := args_says (ρ := act.eval) (μ := μ) (a := a) (q := args) fun x hx => hs x (by simp [Op.operands, Call.operands, hx])
  have hva := vok_args (U := U) (μ := μ) (a := a) (q := args.toList) fun x hx => ha x (by simp [Op.operands, Call.operands, Array.mem_toList_iff.1 hx])
  have hrun : (execOp act.eval ⟨dst, .call { callee := .value g, args, argTypes := at_ }, type, pos, after, guard⟩).run P w = (callFunc f (((first ++ ((args.toList.map cx).map (ev a)) ++ cap).map (conc μ)).toArray)).run P w := by
    simp [execOp, resolve, Deferred.ofValue, hgs, invoke, hargs]
  unfold Oper.wp
  rw [hrun]
  refine up_of_fun (he.2 U μ w _ hav r (fun u hu => ?_) fun μ' w' r' e' v' => hk μ' w' r' e' v')
  simp only [List.mem_append] at hu
  rcases hu with (hu | hu) | hu
  · exact vokL_iff.1 hgo.1 u hu
  · exact hva u hu
  · exact vokL_iff.1 hgo.2 u hu

/-- A method that the dynamic type has by itself, the receiver as it stands. -/
def methodA (P : Program) (t : TypeId) (name : String) : Option FuncId :=
  (P.info? t).bind fun i => (i.methods.find? (·.name == name)).bind fun m =>
    if m.path.isEmpty then match m.func, P.underlying t with
      | some (f, true), some (.pointer _) => some f
      | some (_, false), some (.pointer _) => none
      | some (f, false), some _ => some f
      | _, _ => none
    else none

theorem run_methodA {t : TypeId} {name : String} {f : FuncId} (hm : methodA P t name = some f) (u : Value) (w : World) (k : Nat) : (method (k + 1) t u name).run P w = .ok (f, u) w := by
  unfold methodA at hm
  simp only [Option.bind_eq_some_iff] at hm
  obtain ⟨i, hi, m, hmm, hm⟩ := hm
  split at hm
  case isFalse => cases hm
  rename_i hp
  have hpl : m.path.toList = [] := by simpa using hp
  split at hm
  · rename_i f' e hf hu
    cases hm
    simp [method, typeInfo, hi, hmm, hpl, follow, hf, receiverAt, run_underlying hu, Place.get]
  · cases hm
  · rename_i f' d hnp hf hu
    cases hm
    have : ∀ e, d ≠ .pointer e := fun e he => hnp e he
    cases d <;> first
      | exact absurd rfl (this _)
      | simp [method, typeInfo, hi, hmm, hpl, follow, hf, receiverAt, run_underlying hu, Place.get]
  · cases hm

theorem OpEv.inv {f : FuncId} {rc : Operand} {m : String} {args : Array Operand} {at_ : Array TypeId} {t : Nat} {u : AV} (hr : ev a (cx rc) = .iface t u) (hm : methodA P t m = some f) (he : FEv P f (u :: ((args.toList.map cx).map (ev a))) h n v h' n') :
    OpEv P ⟨dst, .call { callee := .invoke rc m, args, argTypes := at_ }, type, pos, after, guard⟩ a h n v h' n' := by
  refine ⟨he.1, fun U μ w act K Q hav r hs ha hk => ?_⟩
  have hgs : act.eval rc = .iface t (conc μ u) := by rw [hs rc (by simp [Op.operands, Call.operands]), hr]; simp [conc]
  have hgo := ha rc (by simp [Op.operands, Call.operands])
  rw [hr] at hgo
  simp only [vok] at hgo
  have hargs := args_says (ρ := act.eval) (μ := μ) (a := a) (q := args) fun x hx => hs x (by simp [Op.operands, Call.operands, hx])
  have hva := vok_args (U := U) (μ := μ) (a := a) (q := args.toList) fun x hx => ha x (by simp [Op.operands, Call.operands, Array.mem_toList_iff.1 hx])
  have hmet := run_methodA hm (conc μ u) w (P.types.size + 99)
  rw [show P.types.size + 99 + 1 = P.types.size + Made.depth from rfl] at hmet
  have hrun : (execOp act.eval ⟨dst, .call { callee := .invoke rc m, args, argTypes := at_ }, type, pos, after, guard⟩).run P w = (callFunc f (((u :: ((args.toList.map cx).map (ev a))).map (conc μ)).toArray)).run P w := by
    have hx : ∀ {β : Type} (g : Operand → β) (x : Array Operand), List.take x.size (x.toList.map g) = x.toList.map g := fun g x => List.take_of_length_le (by simp)
    simp [execOp, resolve, hgs, invoke, callMethod, hmet, hargs, hx]
  unfold Oper.wp
  rw [hrun]
  refine up_of_fun (he.2 U μ w _ hav r (fun x hx => ?_) fun μ' w' r' e' v' => hk μ' w' r' e' v')
  rcases List.mem_cons.1 hx with rfl | hx
  · exact hgo
  · exact hva x hx

end
end
end Go.Eng
