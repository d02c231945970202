/- Operations that write: the one theorem. -/
import Derived.Test.YteginejafomfmaaGreatDoorAeEff3
set_option linter.unusedSimpArgs false
set_option linter.unusedVariables false
set_option maxHeartbeats 1000000
namespace Go.Ae
open Go

section
variable {P : Program} {E : Env} {β : Beta} {h : Hp} {w : World} {n : Nat} {fr : T AVal} {a : Act}

theorem effBuiltin_sound (r : Rel E β h w) {b : Builtin} {ts : Array TypeId} {ty : TypeId} {consts : Array Bool} {args : List AVal} {cargs : Array Value} {v : AVal} {h' : Hp}
    (ha : effBuiltin P b ts.toList args h = some (v, h')) (hr : VRs E.ρ β args cargs.toList) : Does P E β h w (builtin b ts ty consts cargs) v h' := by
  obtain ⟨tsl⟩ := ts
  obtain ⟨cl⟩ := cargs
  simp only at ha hr
  unfold effBuiltin at ha
  split at ha
  · rename_i t xt s x
    cases hr with | @cons _ _ cs cl hs hr =>
    cases hr with | @cons _ _ cx cl hx hr =>
    cases hr
    obtain ⟨cv, β', w', h1, h2, h3, h4⟩ := append_sound (P := P) (ty := ty) r ha hs hx
    exact DoesV.op ⟨cv, β', w', h1, h2, h3, h4⟩
  · rename_i t ts dst src
    cases hr with | @cons _ _ cs cl hs hr =>
    cases hr with | @cons _ _ cx cl hx hr =>
    cases hr
    exact (copy_sound (P := P) (ts := ts) (ty := ty) (rest := []) r ha hs hx).op
  · rename_i t ts m k
    cases hr with | @cons _ _ cs cl hs hr =>
    cases hr with | @cons _ _ cx cl hx hr =>
    cases hr
    exact (delete_sound (P := P) (ts := ts) (ty := ty) r ha hs hx).op
  · rename_i t it p m
    cases hr with | @cons _ _ cs cl hs hr =>
    cases hr with | @cons _ _ cx cl hx hr =>
    cases hr; cases hx
    exact (unsafeString_sound (P := P) (it := it) (ty := ty) r ha hs).op
  · cases ha

theorem eff_sound (r : Rel E β h w) {o : Oper} {v : AVal} {h' : Hp} (ha : effOp P fr h o = some (v, h')) (hf : FrR E β n fr a) : Does P E β h w (execOp a.eval o) v h' := by
  unfold effOp at ha
  split at ha <;> rename_i ho
  · rename_i t x y
    split at ha
    · rename_i p q hp hq
      split at ha
      · rename_i h2 hs
        simp only [Option.some.injEq, Prod.mk.injEq] at ha
        obtain ⟨rfl, rfl⟩ := ha
        obtain ⟨w', g1, g2, g3⟩ := store_sound (P := P) r hs (opdA_sound hf hp) (opdA_sound hf hq)
        have := (show DoesU P E β h w (Instr.storeAt t (a.eval x) (a.eval y)) h2 from ⟨β, w', g1, g2, g3⟩).op
        simpa only [execOp, ho] using this
      · cases ha
    · cases ha
  · -- makeMap with a hint
    rename_i t x
    unfold und at ha
    split at ha
    · rename_i k e i m hu hx
      simp only [Option.some.injEq, Prod.mk.injEq] at ha
      obtain ⟨rfl, rfl⟩ := ha
      have hv := opdA_sound hf hx
      generalize hcx : a.eval x = cx at hv
      cases hv
      obtain ⟨q1, q2⟩ := new_rel r (w' := w.alloc (.map #[] 0)) (x := .map [] 0) (sz := 0) rfl rfl rfl rfl ⟨rfl, rfl, trivial⟩
      exact ⟨_, .map (some w.heap.size), _, _, by simp [execOp, ho, hcx, Instr.makeMap, run_underlying hu, asInt, asIntOf], .inl rfl, .map (upd_same β h.next ⟨w.heap.size, 0, 0⟩), q1, q2⟩
    · cases ha
  · rename_i t x y
    split at ha
    · rename_i hx hy
      have := (makeSlice_sound (P := P) r ha (opdA_sound hf hx) (opdA_sound hf hy)).op
      simpa only [execOp, ho] using this
    · cases ha
  · rename_i t m k x
    split at ha
    · rename_i hm hk hx
      obtain ⟨rfl, d⟩ := mapPut_sound (P := P) r ha (opdA_sound hf hm) (opdA_sound hf hk) (opdA_sound hf hx)
      have := d.op
      simpa only [execOp, ho] using this
    · cases ha
  · rename_i t m k x
    split at ha
    · rename_i hm hk hx
      obtain ⟨rfl, d⟩ := mapPut_sound (P := P) r ha (opdA_sound hf hm) (opdA_sound hf hk) (opdA_sound hf hx)
      have := d.op
      simpa only [execOp, ho] using this
    · cases ha
  · split at ha
    · rename_i hx
      have := (next_sound (P := P) (ty := o.type) r ha (opdA_sound hf hx)).op
      simpa only [execOp, ho] using this
    · cases ha
  · split at ha
    · rename_i hx
      have := (convE_sound (P := P) r ha (opdA_sound hf hx)).op
      simpa only [execOp, ho] using this
    · cases ha
  · rename_i c
    split at ha
    · rename_i b hcb
      split at ha
      · rename_i args hargs
        have hvs := opdsA_sound hf hargs
        have := effBuiltin_sound (P := P) (ts := c.argTypes) (ty := o.type) (consts := c.args.map fun | .const _ => true | _ => false) (cargs := c.args.map a.eval) r ha (by simpa using hvs)
        obtain ⟨nx, cv, β', w', g1, g2⟩ := this
        exact ⟨nx, cv, β', w', by simp only [execOp, ho, resolve, hcb, Sem.run_bind, Sem.run_pure, Result.andThen_ok, invoke]; exact g1, g2⟩
      · cases ha
    · cases ha
  · cases ha
end
end Go.Ae
