/- What a call comes to, and one operation as a step of a region. -/
import Derived.Test.YteginejafomfmaaGreatDoorAeExt
set_option linter.unusedVariables false
set_option linter.unusedSimpArgs false
set_option maxHeartbeats 1000000
namespace Go.Ae
open Go

/-- How a call ends. -/
def Ret (E : Env) (β : Beta) (h : Hp) (w : World) (v : AVal) (h' : Hp) : Ending → World → Prop :=
  fun e w' => ∃ cv β', e = .returned cv ∧ VR E.ρ β' v cv ∧ Rel E β' h' w' ∧ Frm β h w β' h' w'
def CallOk (P : Program) (E : Env) (f : FuncId) (args : List AVal) (h : Hp) (v : AVal) (h' : Hp) : Prop :=
  ∀ β w cargs, Rel E β h w → VRs E.ρ β args cargs → Calls P f cargs.toArray w (Ret E β h w v h')
def StepOk (P : Program) (E : Env) (β : Beta) (h : Hp) (w : World) (s : Sem Next) (v : AVal) (h' : Hp) : Prop :=
  Does P E β h w s v h' ∨ ∃ f cargs, s.run P w = .ok (.enter f cargs) w ∧ Calls P f cargs w (Ret E β h w v h')

section
variable {P : Program} {E : Env} {β : Beta} {h : Hp} {w : World}

theorem wp_of_step {o : Oper} {a : Act} {v : AVal} {h' : Hp} {K : Act → World → Prop} {Q : Exit → Act → World → Prop} (hs : StepOk P E β h w (execOp a.eval o) v h')
    (hK : ∀ cv β' w', VR E.ρ β' v cv → Rel E β' h' w' → Frm β h w β' h' w' → K (a.put o.dst cv) w') : o.wp P a w K Q := by
  unfold Oper.wp
  rcases hs with ⟨nx, cv, β', w', hr, hn, hv, hrel, hfrm⟩ | ⟨f, cargs, hr, hc⟩
  · rw [hr]
    rcases hn with rfl | ⟨rfl, rfl⟩
    · exact hK _ _ _ hv hrel hfrm
    · exact hK _ _ _ hv hrel hfrm
  · rw [hr]
    refine Calls.mono hc fun e w' he => ?_
    obtain ⟨cv, β', rfl, hv, hrel, hfrm⟩ := he
    exact hK _ _ _ hv hrel hfrm

theorem method_sound {t : TypeId} {v recv : AVal} {name : String} {f : FuncId} (hm : methodA P t v name = some (f, recv)) {cv : Value} (hv : VR E.ρ β v cv) (k : Nat) :
    ∃ cr, VR E.ρ β recv cr ∧ ∀ w, (method (k + 1) t cv name).run P w = .ok (f, cr) w := by
  unfold methodA at hm
  split at hm
  · rename_i i hi
    split at hm
    · rename_i m hf
      cases hp : m.path.isEmpty with
      | false => rw [hp] at hm; cases hm
      | true =>
        rw [hp, cond_true] at hm
        have hnil : m.path.toList = [] := by simpa using hp
        have key : ∀ (d : TypeDesc) (b : Bool), und P t = some d → m.func = some (f, b) → ((∃ e, d = .pointer e) ↔ b = true) → ∀ w, (method (k + 1) t cv name).run P w = .ok (f, cv) w := by
          intro d b hu hfn hd w
          have hu' : P.underlying t = some d := hu
          simp only [method, typeInfo, hi, Sem.run_bind, hf, hnil, follow, hfn]
          cases b with
          | true =>
            obtain ⟨e, rfl⟩ := hd.2 rfl
            simp [typeInfo, hi, receiverAt, run_underlying hu', Place.get, hf, hnil, follow, hfn]
          | false =>
            have hne : ∀ e, d ≠ .pointer e := fun e he => by have := hd.1 ⟨e, he⟩; cases this
            cases d <;> first | exact absurd rfl (hne _) | simp [typeInfo, hi, receiverAt, run_underlying hu', Place.get, hf, hnil, follow, hfn]
        split at hm
        · rename_i f' e hfn hu
          simp only [Option.some.injEq, Prod.mk.injEq] at hm
          obtain ⟨rfl, rfl⟩ := hm
          exact ⟨cv, hv, key _ true hu hfn ⟨fun _ => rfl, fun _ => ⟨_, rfl⟩⟩⟩
        · cases hm
        · rename_i f' d hne hfn hu
          simp only [Option.some.injEq, Prod.mk.injEq] at hm
          obtain ⟨rfl, rfl⟩ := hm
          refine ⟨cv, hv, key _ false hu hfn ⟨fun ⟨e, he⟩ => ?_, fun h => by cases h⟩⟩
          subst he
          exact (hne _ rfl).elim
        · cases hm
    · cases hm
  · cases hm

theorem target_sound {n : Nat} {fr : T AVal} {a : Act} {o : Oper} {c : Call} (ho : o.op = .call c) {f : FuncId} {args : List AVal} (ht : targetA P fr c = some (f, args)) (hf : FrR E β n fr a) :
    ∃ cargs, VRs E.ρ β args cargs ∧ ∀ w, (execOp a.eval o).run P w = (callFunc f cargs.toArray).run P w := by
  unfold targetA at ht
  split at ht
  · rename_i as has
    have hargs := opdsA_sound hf has
    split at ht
    · rename_i g hc
      split at ht
      · rename_i f' first captured hg
        simp only [Option.some.injEq, Prod.mk.injEq] at ht
        obtain ⟨rfl, rfl⟩ := ht
        have hv := opdA_sound hf hg
        generalize hcv : a.eval g = cv at hv
        cases hv with | @func _ _ _ vs ws h1 h2 =>
        refine ⟨vs.toList ++ c.args.toList.map a.eval ++ ws.toList, (h1.append hargs).append h2, fun w => ?_⟩
        simp [execOp, ho, resolve, hc, hcv, Deferred.ofValue, invoke]
        congr 2
        apply Array.ext'
        simp
      · cases ht
    · rename_i g name hc
      split at ht
      · rename_i t v hg
        have hv := opdA_sound hf hg
        generalize hcv : a.eval g = cv at hv
        cases hv with | @iface _ _ cv hv =>
        split at ht
        · rename_i f' recv hm
          simp only [Option.some.injEq, Prod.mk.injEq] at ht
          obtain ⟨rfl, rfl⟩ := ht
          obtain ⟨cr, hcr, hrun⟩ := method_sound hm hv (P.types.size + (Made.depth - 1))
          refine ⟨cr :: c.args.toList.map a.eval, .cons hcr hargs, fun w => ?_⟩
          have hrun' : (method (P.types.size + Made.depth) t cv name).run P w = .ok (f', cr) w := hrun w
          have h0 : (#[Value.iface t cv] ++ Array.map a.eval c.args)[0]? = some (Value.iface t cv) := by
            rw [Array.getElem?_append_left (by simp)]; rfl
          have h1 : (Array.map a.eval c.args).extract 0 c.args.size = Array.map a.eval c.args := by
            have e : c.args.size = (Array.map a.eval c.args).size := by simp
            rw [e]; exact Array.extract_size
          simp [execOp, ho, resolve, hc, hcv, invoke]
          rw [h0]
          simp [callMethod, program, h1]
          show ((Sem.run P (method (P.types.size + Made.depth) t cv name) w).andThen fun a_2 w' => Sem.run P (callFunc a_2.fst (#[a_2.snd] ++ Array.map a.eval c.args)) w') = _
          rw [hrun']
          show Sem.run P (callFunc f' (#[cr] ++ Array.map a.eval c.args)) w = _
          congr 2; apply Array.ext'; simp
        · cases ht
      · cases ht
    · cases ht
  · cases ht
end
end Go.Ae
