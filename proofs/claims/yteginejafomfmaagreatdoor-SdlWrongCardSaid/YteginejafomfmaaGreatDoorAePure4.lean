/- Operations that look at no memory: the one theorem. -/
import Derived.Test.YteginejafomfmaaGreatDoorAePure3
import Derived.Lib.UnsafeStr
set_option linter.unusedSimpArgs false
set_option linter.unusedVariables false
set_option maxHeartbeats 1000000
namespace Go.Ae
open Go

section
variable {P : Program} {E : Env} {β : Beta} {n : Nat} {fr : T AVal} {a : Act}

theorem min_sound (mx : Bool) : ∀ (l : List AVal) (x : AVal) (cl : List Value) (cx : Value) (v : AVal), minA mx x l = some v → VR E.ρ β x cx → VRs E.ρ β l cl →
    Says P E β (cl.foldlM (if mx then Builtin.max2 else Builtin.min2) cx) v
  | [], x, cl, cx, v, h, hx, hl => by
    cases hl
    have : x = v := by cases x <;> simpa [minA] using h
    subst this
    exact Says.pure hx
  | y :: l, x, cl, cx, v, h, hx, hl => by
    cases hl with | @cons _ _ cy cl hy hl =>
    cases x <;> cases y <;> simp only [minA] at h <;> first | (cases h; done) | skip
    cases hx; cases hy
    rename_i k p k' q
    obtain ⟨cv, hr, hv⟩ := min_sound mx l _ cl _ v h (.int k _) hl
    refine ⟨cv, fun w => ?_, hv⟩
    rw [← hr w]
    cases mx
    · simp only [List.foldlM_cons, Bool.false_eq_true, if_false, Builtin.min2, Sem.run_bind, Sem.run_pure, Result.andThen_ok, cond_false]
      congr 3
      by_cases hc : q < p <;> simp [hc]
    · simp only [List.foldlM_cons, if_true, Builtin.max2, Sem.run_bind, Sem.run_pure, Result.andThen_ok, cond_true]
      congr 3
      by_cases hc : q > p <;> simp [hc]

theorem pureBuiltin_sound {b : Builtin} {ts : Array TypeId} {ty : TypeId} {consts : Array Bool} {args : List AVal} {cargs : Array Value} {v : AVal} (h : pureBuiltin P b ts.toList args = some v)
    (hr : VRs E.ρ β args cargs.toList) : ∃ cv, (∀ w, (builtin b ts ty consts cargs).run P w = .ok (.value cv) w) ∧ VR E.ρ β v cv := by
  obtain ⟨tsl⟩ := ts
  obtain ⟨cl⟩ := cargs
  simp only at h hr
  unfold pureBuiltin und at h
  split at h
  · -- len
    rename_i t ts x l
    cases hr with | @cons _ _ cx cl hx hl =>
    split at h
    · rename_i k c hu; cases hx with | @str _ _ s h1 h2 =>
      simp only [Option.some.injEq] at h; subst h
      exact ⟨_, fun w => by simp [builtin, Builtin.len_, run_underlying hu, goInt, size_of_data h1], .int _ _⟩
    · rename_i k e hu; simp only [Option.some.injEq] at h; subst h
      exact ⟨_, fun w => by simp [builtin, Builtin.len_, run_underlying hu, goInt], .int _ _⟩
    · rename_i hu; cases hx; simp only [Option.some.injEq] at h; subst h
      exact ⟨_, fun w => by simp [builtin, Builtin.len_, run_underlying hu, goInt], .int _ _⟩
    · rename_i hu; cases hx; simp only [Option.some.injEq] at h; subst h
      exact ⟨_, fun w => by simp [builtin, Builtin.len_, run_underlying hu, goInt], .int _ _⟩
    · rename_i hu; cases hx; simp only [Option.some.injEq] at h; subst h
      exact ⟨_, fun w => by simp [builtin, Builtin.len_, run_underlying hu, goInt], .int _ _⟩
    · cases h
  · rename_i t ts x l
    cases hr with | @cons _ _ cx cl hx hl =>
    split at h
    · rename_i hu
      cases hx with | slice h0 hs hl' hc he hz =>
      simp only [Option.some.injEq] at h; subst h
      rw [he rfl]
      exact ⟨_, fun w => by simp [builtin, Builtin.cap_, run_underlying hu, goInt], .int _ _⟩
    · rename_i hu; cases hx; simp only [Option.some.injEq] at h; subst h
      exact ⟨_, fun w => by simp [builtin, Builtin.cap_, run_underlying hu, goInt], .int _ _⟩
    · cases h
  · rename_i x l
    cases hr with | @cons _ _ cx cl hx hl =>
    obtain ⟨cv, hr, hv⟩ := min_sound (P := P) false l x cl cx v h hx hl
    exact ⟨cv, fun w => by have := hr w; simp only [Bool.false_eq_true, if_false] at this; simp [builtin, Builtin.min_, this], hv⟩
  · rename_i x l
    cases hr with | @cons _ _ cx cl hx hl =>
    obtain ⟨cv, hr, hv⟩ := min_sound (P := P) true l x cl cx v h hx hl
    exact ⟨cv, fun w => by have := hr w; simp only [if_true] at this; simp [builtin, Builtin.max_, this], hv⟩
  · cases hr with | @cons _ _ cx cl hx hl =>
    cases hl; cases hx; simp only [Option.some.injEq] at h; subst h
    exact ⟨.pointer none, fun w => by show ((builtin .unsafeSliceData _ _ _ #[.slice none 0 0]).run P w) = _; simp only [builtin, Sem.run_bind, Lib.run_unsafeSliceData_nil, Result.andThen_ok]; rfl, .nilptr⟩
  · cases hr with | @cons _ _ cx cl hx hl =>
    cases hl
    cases hx with | slice h0 hs hl' hc he hz =>
    simp only [Option.some.injEq] at h; subst h
    rename_i c L
    have hc0 : c ≠ 0 := by omega
    exact ⟨_, fun w => by show ((builtin .unsafeSliceData _ _ _ #[.slice (some _) _ c]).run P w) = _; simp only [builtin, Sem.run_bind, Lib.run_unsafeSliceData_row (hc := hc0), Result.andThen_ok]; rfl, .ptr h0⟩
  · cases h

theorem opt_sound (hf : FrR E β n fr a) {x : Option Operand} {r : Option AVal} (h : optA fr x = some r) : OptR E β r (x.map a.eval) := by
  cases x with
  | none => simp only [optA, Option.some.injEq] at h; subst h; exact .none
  | some y =>
    simp only [optA] at h
    cases hy : opdA fr y with
    | none => rw [hy] at h; cases h
    | some v => rw [hy] at h; simp only [Option.map_some, Option.some.injEq] at h; subst h; exact .some (opdA_sound hf hy)

theorem Says.op {s : Sem Value} {v : AVal} (h : Says P E β s v) : ∃ cv, (∀ w, (do Pure.pure (Next.value (← s)) : Sem Next).run P w = .ok (.value cv) w) ∧ VR E.ρ β v cv :=
  let ⟨cv, hr, hv⟩ := h
  ⟨cv, fun w => by simp [hr], hv⟩

theorem build_sound {t : TypeId} {parts : Array (Nat × Operand)} {v : AVal} (hf : FrR E β n fr a) (h : buildA P fr t parts.toList = some v) : Says P E β (Instr.build t (parts.map fun (i, x) => (i, a.eval x))) v := by
  unfold buildA at h
  split at h
  · rename_i z ps hz hp
    cases ht : z.isTuple with
    | true => rw [ht] at h; cases h
    | false =>
      rw [ht, cond_false] at h
      obtain ⟨cz, ⟨i, hi, hiz⟩, _, hv⟩ := zeroT_sound (E := E) (β := β) hz
      have hps := partsA_sound hf hp
      have hpl : (parts.map fun (i, x) => (i, a.eval x)).toList = parts.toList.map fun (i, x) => (i, a.eval x) := by simp
      obtain ⟨hc, hone⟩ := hv.cells ht
      unfold und at h
      split at h
      · rename_i fields hu
        split at h
        · rename_i places hpl2
          unfold placesT at hpl2
          cases ho : fillP (places[·]?) ps z.cells with
          | none => rw [ho] at h; cases h
          | some out =>
            rw [ho] at h; simp only [Option.map_some, Option.some.injEq] at h; subst h
            obtain ⟨cout, h1, h2, h3, _⟩ := fillP_sound ho hps hc hone
            refine ⟨.agg cout, fun w => run_build w t _ cout ?_, .agg h2 h3⟩
            simp only [Program.built, hi, hu, hiz, hpl2, hpl]
            rw [← h1]; congr 1; funext k; simp
        · cases h
      · rename_i k e hu
        split at h
        · rename_i size hs
          cases ho : fillP (fun i => some (i * size, size)) ps z.cells with
          | none => rw [ho] at h; cases h
          | some out =>
            rw [ho] at h; simp only [Option.map_some, Option.some.injEq] at h; subst h
            obtain ⟨cout, h1, h2, h3, _⟩ := fillP_sound ho hps hc hone
            unfold sizeT at hs
            cases hie : P.info? e with
            | none => rw [hie] at hs; cases hs
            | some ie =>
              rw [hie] at hs; simp only [Option.map_some, Option.some.injEq] at hs; subst hs
              refine ⟨.agg cout, fun w => run_build w t _ cout ?_, .agg h2 h3⟩
              simp only [Program.built, hi, hu, hiz, hie, hpl]
              exact h1
        · cases h
      · cases h
  · cases h

theorem pure_sound {o : Oper} {v : AVal} (h : pureOp P fr o = some v) (hf : FrR E β n fr a) : ∃ cv, (∀ w, (execOp a.eval o).run P w = .ok (.value cv) w) ∧ VR E.ρ β v cv := by
  unfold pureOp at h
  split at h <;> rename_i ho
  · exact ⟨_, fun w => by simp only [execOp, ho]; rfl, opdA_sound hf h⟩
  · exact ⟨_, fun w => by simp only [execOp, ho]; rfl, opdA_sound hf h⟩
  · split at h
    · rename_i hc
      have hv := opdA_sound hf hc
      generalize hcv : a.eval _ = cv at hv
      cases hv
      exact ⟨_, fun w => by simp only [execOp, ho, hcv, asBool, Sem.run_bind, Sem.run_pure, Result.andThen_ok]; rfl, opdA_sound hf h⟩
    · rename_i hc
      have hv := opdA_sound hf hc
      generalize hcv : a.eval _ = cv at hv
      cases hv
      exact ⟨_, fun w => by simp only [execOp, ho, hcv, asBool, Sem.run_bind, Sem.run_pure, Result.andThen_ok]; rfl, opdA_sound hf h⟩
    · cases h
  · obtain ⟨cv, hr, hv⟩ := (build_sound hf h).op
    exact ⟨cv, fun w => by simp only [execOp, ho]; exact hr w, hv⟩
  · -- nilCheck
    rename_i x
    split at h
    · rename_i hc
      have hv := opdA_sound hf hc
      simp only [Option.some.injEq] at h; subst h
      refine ⟨_, fun w => ?_, hv⟩
      simp only [execOp, ho]
      generalize a.eval x = cv at hv
      cases hv; rfl
    · rename_i hc
      have hv := opdA_sound hf hc
      simp only [Option.some.injEq] at h; subst h
      refine ⟨_, fun w => ?_, hv⟩
      simp only [execOp, ho]
      generalize a.eval x = cv at hv
      cases hv; rfl
    · rename_i hc
      have hv := opdA_sound hf hc
      simp only [Option.some.injEq] at h; subst h
      refine ⟨_, fun w => ?_, hv⟩
      simp only [execOp, ho]
      generalize a.eval x = cv at hv
      cases hv; rfl
    · rename_i hc
      have hv := opdA_sound hf hc
      simp only [Option.some.injEq] at h; subst h
      refine ⟨_, fun w => ?_, hv⟩
      simp only [execOp, ho]
      generalize a.eval x = cv at hv
      cases hv; rfl
    · cases h
  · split at h
    · rename_i hx hy
      obtain ⟨cv, hr, hv⟩ := (bin_sound h (opdA_sound hf hx) (opdA_sound hf hy)).op
      exact ⟨cv, fun w => by simp only [execOp, ho]; exact hr w, hv⟩
    · cases h
  · split at h
    · rename_i hx
      obtain ⟨cv, hr, hv⟩ := (un_sound (P := P) h (opdA_sound hf hx)).op
      exact ⟨cv, fun w => by simp only [execOp, ho]; exact hr w, hv⟩
    · cases h
  · split at h
    · rename_i hx
      obtain ⟨cv, hr, hv⟩ := (convP_sound (P := P) h (opdA_sound hf hx)).op
      exact ⟨cv, fun w => by simp only [execOp, ho]; exact hr w, hv⟩
    · cases h
  · -- makeInterface
    rename_i t x
    cases hu : P.underlying t with
    | none => simp [und, hu] at h
    | some td =>
      cases hx : opdA fr x with
      | none => cases td <;> simp [und, hu, hx] at h
      | some y =>
        have hv := opdA_sound hf hx
        cases td <;> simp [und, hu, hx] at h <;> subst h <;>
          exact ⟨_, fun w => by simp [execOp, ho, Instr.makeInterface, run_underlying hu], .iface hv⟩
  · split at h
    · rename_i h1 h2
      simp only [Option.some.injEq] at h; subst h
      refine ⟨_, fun w => by simp only [execOp, ho, Instr.makeFunc]; rfl, .func ?_ ?_⟩
      · simpa using opdsA_sound hf h1
      · simpa using opdsA_sound hf h2
    · cases h
  · split at h
    · rename_i h1 h2 h3 h4
      obtain ⟨cv, hr, hv⟩ := (slice_sound (P := P) h (opdA_sound hf h1) (opt_sound hf h2) (opt_sound hf h3) (opt_sound hf h4)).op
      exact ⟨cv, fun w => by simp only [execOp, ho]; exact hr w, hv⟩
    · cases h
  · split at h
    · rename_i hx
      obtain ⟨cv, hr, hv⟩ := (fieldAddr_sound (P := P) h (opdA_sound hf hx)).op
      exact ⟨cv, fun w => by simp only [execOp, ho]; exact hr w, hv⟩
    · cases h
  · -- field
    rename_i t x f
    unfold und at h
    split at h
    · rename_i fields cs hu hx
      split at h
      · rename_i fd hfd
        have hv := opdA_sound hf hx
        generalize hcx : a.eval x = cx at hv
        cases hv with | @agg _ vs hr h1 =>
        obtain ⟨cv, hcv, hv⟩ := partA_sound h hr h1
        exact ⟨cv, fun w => by simp [execOp, ho, hcx, Instr.field, run_underlying hu, hfd, asAgg, hcv], hv⟩
      · cases h
    · cases h
  · split at h
    · rename_i hx hy
      obtain ⟨cv, hr, hv⟩ := (indexAddr_sound (P := P) h (opdA_sound hf hx) (opdA_sound hf hy)).op
      exact ⟨cv, fun w => by simp only [execOp, ho]; exact hr w, hv⟩
    · cases h
  · split at h
    · rename_i hx hy
      obtain ⟨cv, hr, hv⟩ := (index_sound (P := P) h (opdA_sound hf hx) (opdA_sound hf hy)).op
      exact ⟨cv, fun w => by simp only [execOp, ho]; exact hr w, hv⟩
    · cases h
  · split at h
    · rename_i hx
      obtain ⟨cv, hr, hv⟩ := (assert_sound (P := P) h (opdA_sound hf hx)).op
      exact ⟨cv, fun w => by simp only [execOp, ho]; exact hr w, hv⟩
    · cases h
  · -- extract
    rename_i x i
    split at h
    · rename_i vs hx
      have hv := opdA_sound hf hx
      generalize hcx : a.eval x = cx at hv
      cases hv with | @tuple _ ws hr =>
      obtain ⟨cv, hcv, hv⟩ := hr.get h
      have hcv' : ws[i]? = some cv := by simpa using hcv
      exact ⟨cv, fun w => by simp [execOp, ho, hcx, Instr.extract, hcv'], hv⟩
    · cases h
  · -- builtin
    rename_i c
    split at h
    · rename_i b hcb
      split at h
      · rename_i args hargs
        have hr := opdsA_sound hf hargs
        obtain ⟨cv, hcv, hv⟩ := pureBuiltin_sound (P := P) (ts := c.argTypes) (ty := o.type) (consts := c.args.map fun | .const _ => true | _ => false) (cargs := c.args.map a.eval) h (by simpa using hr)
        exact ⟨cv, fun w => by simp only [execOp, ho, resolve, hcb, Sem.run_bind, Sem.run_pure, Result.andThen_ok, invoke]; exact hcv w, hv⟩
      · cases h
    · cases h
  · cases h
end
end Go.Ae
