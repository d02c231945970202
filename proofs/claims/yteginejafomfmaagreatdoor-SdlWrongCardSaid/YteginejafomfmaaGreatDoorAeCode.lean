/- The evaluator's answer is what every run answers. -/
import Derived.Test.YteginejafomfmaaGreatDoorAeDraw
import Derived.Scope
set_option linter.unusedVariables false
set_option linter.unusedSimpArgs false
set_option maxHeartbeats 1000000
namespace Go.Ae
open Go

section
variable {P : Program} {E : Env} {H : Hook}

structure HookOk (P : Program) (E : Env) (H : Hook) : Prop where
  call : ∀ f args h v h', H.call f args h = some (some (v, h')) → (∃ fn, P.funcs[f]? = some fn ∧ fn.body.isSome = true) ∧ CallOk P E f args h v h'
  bin : ∀ op x y v, H.bin op x y = some v → ∀ (β : Beta) (a : Act) (o : Oper) (t : TypeId) (p q : Operand) (z : TypeId), o.op = .binOp op t p q z → VR E.ρ β x (a.eval p) → VR E.ρ β y (a.eval q) →
    ∃ cv, (∀ w, (execOp a.eval o).run P w = .ok (.value cv) w) ∧ VR E.ρ β v cv
theorem HookOk.none : HookOk P E Hook.none := ⟨fun _ _ _ _ _ h => (by cases h), fun _ _ _ _ h => (by cases h)⟩

theorem run_callFunc_enter {f : FuncId} {fn : Func} (hf : P.funcs[f]? = some fn) (hb : fn.body.isSome = true) (hn : (fn.name == "runtime.NumGoroutine") = false) (args : Array Value) (w : World) :
    (callFunc f args).run P w = .ok (.enter f args) w := by
  have h1 : fn.name ≠ "runtime.NumGoroutine" := by simpa using hn
  have h2 : fn.body ≠ none := fun e => by rw [e] at hb; cases hb
  simp [callFunc, hf, h1, h2]

theorem fits_enter (hfit : fitsP P = true) {f : FuncId} {fn : Func} (hf : P.funcs[f]? = some fn) (hb : fn.body.isSome = true) : (fn.name == "runtime.NumGoroutine") = false := by
  have := fitsP_fn hfit hf
  unfold fitsFn at this
  cases hc : fn.body with
  | none => rw [hc] at hb; cases hb
  | some c => rw [hc] at this; simp only [Bool.and_eq_true, Bool.not_eq_true'] at this; exact this.2

theorem pure_step {β : Beta} {h : Hp} {w : World} {s : Sem Next} {v : AVal} {cv : Value} (r : Rel E β h w) (hs : s.run P w = .ok (.value cv) w) (hv : VR E.ρ β v cv) : StepOk P E β h w s v h :=
  .inl ⟨_, cv, β, w, hs, .inl rfl, hv, r, .refl _ _ _⟩

theorem op_sound (hhook : HookOk P E H) {n : Nat} (hcall : CallSound P E H n) : OpSound P E H (n + 1) := by
  intro β fr h o v h' w a N he r hf
  unfold evalOp at he
  split at he
  · cases hp : pureOp P fr o with
    | none =>
      rw [hp] at he
      simp only at he
      split at he
      · rename_i op t x y z ho
        split at he
        · rename_i p q hx hy
          split at he
          · rename_i u hu
            simp only [Option.some.injEq, Prod.mk.injEq] at he
            obtain ⟨rfl, rfl⟩ := he
            obtain ⟨cv, hr, hv⟩ := hhook.bin _ _ _ _ hu β a o _ _ _ _ ho (opdA_sound hf hx) (opdA_sound hf hy)
            exact pure_step r (hr w) hv
          · cases he
        · cases he
      · cases he
    | some x =>
      rw [hp] at he; simp only [Option.some.injEq, Prod.mk.injEq] at he
      obtain ⟨rfl, rfl⟩ := he
      obtain ⟨cv, hr, hv⟩ := pure_sound hp hf
      exact pure_step r (hr w) hv
  · cases hp : readOp P E.G fr h o with
    | none => rw [hp] at he; cases he
    | some x =>
      rw [hp] at he; simp only [Option.map_some, Option.some.injEq, Prod.mk.injEq] at he
      obtain ⟨rfl, rfl⟩ := he
      obtain ⟨cv, hr, hv⟩ := read_sound r hp hf
      exact pure_step r hr hv
  · cases hp : allocOp P fr h.next o with
    | none => rw [hp] at he; cases he
    | some x =>
      obtain ⟨x, b⟩ := x
      rw [hp] at he; simp only [Option.map_some, Option.some.injEq, Prod.mk.injEq] at he
      obtain ⟨rfl, rfl⟩ := he
      obtain ⟨cv, w', ob, sz, hr, h1, h2, h3, h4, hv, hb⟩ := alloc_sound (w := w) (r.fresh _ (Nat.le_refl _)) hf hp
      obtain ⟨h5, h6⟩ := new_rel r h1 h2 h3 h4 hb
      exact .inl ⟨_, cv, _, w', hr, .inl rfl, hv, h5, h6⟩
  · split at he
    · rename_i c ho
      split at he
      · exact .inl (eff_sound r he hf)
      · split at he
        · rename_i f args ht
          obtain ⟨cargs, hargs, hrun⟩ := target_sound ho ht hf
          rcases hcall he r hargs with ⟨nx, cv, β', w', hr, rest⟩ | ⟨f', cargs', hr, hc⟩
          · exact .inl ⟨nx, cv, β', w', by rw [hrun, hr], rest⟩
          · exact .inr ⟨f', cargs', by rw [hrun, hr], hc⟩
        · cases he
    · exact .inl (eff_sound r he hf)

/-- A region in the text's order. -/
theorem ops_sound (ops : Array Oper) {N : Nat} : ∀ (n : Nat) (hop : ∀ m < n, OpSound P E H m) (l : List Oper) (idx : List Nat), idx.map (fun i => ops[i]?) = l.map some → fitsOps N l = true →
    ∀ {fr h fr' h' β w a} {Q : Exit → Act → World → Prop}, evalOps P E.G H n ops.toList l fr h = some (fr', h') → Rel E β h w → FrR E β N fr a →
      (∀ a' β' w', FrR E β' N fr' a' → Rel E β' h' w' → Frm β h w β' h' w' → Q .normal a' w') → wpOps P ops Q idx a w
  | 0, _, l, idx, _, _, _, _, _, _, _, _, _, _, he, _, _, _ => by simp [evalOps] at he
  | n + 1, hop, [], idx, hi, _, fr, h, fr', h', β, w, a, Q, he, r, hf, hQ => by
    cases idx with
    | cons => simp at hi
    | nil =>
      simp only [evalOps, Option.some.injEq, Prod.mk.injEq] at he
      obtain ⟨rfl, rfl⟩ := he
      exact hQ a β w hf r (.refl _ _ _)
  | n + 1, hop, o :: l, idx, hi, hfit, fr, h, fr', h', β, w, a, Q, he, r, hf, hQ => by
    cases idx with
    | nil => simp at hi
    | cons i idx =>
      simp only [List.map_cons, List.cons.injEq] at hi
      obtain ⟨hi1, hi2⟩ := hi
      simp only [fitsOps, List.all_cons, Bool.and_eq_true] at hfit
      have hd : ∀ d, o.dst = some d → d < N := fun d hd => by
        have := hfit.1; rw [hd] at this; simpa [Nat.blt_eq] using this
      simp only [wpOps, hi1, wanted_eq hf ops o]
      unfold evalOps at he
      cases hw : wantedA ops.toList fr o with
      | false =>
        rw [hw, cond_false] at he
        simp only [Bool.false_eq_true, if_false]
        exact ops_sound ops n (fun m hm => hop m (by omega)) l idx hi2 hfit.2 he r (hf.put undef_VR o.dst hd) hQ
      | true =>
        rw [hw, cond_true] at he
        simp only [if_true]
        split at he
        · rename_i v h1 hv
          refine .inl (wp_of_step (hop n (by omega) hv r hf) fun cv β' w' hcv hrel hfrm => ?_)
          exact ops_sound ops n (fun m hm => hop m (by omega)) l idx hi2 hfit.2 he hrel ((hf.mono (hfrm.Ext r)).put hcv o.dst hd) fun a' β'' w'' h1 h2 h3 => hQ _ _ _ h1 h2 (hfrm.trans h3)
        · cases he

theorem exists_min {p : Nat → Prop} (h : ∃ n, p n) : ∃ n, p n ∧ ∀ m, p m → n ≤ m := by
  obtain ⟨n, hn⟩ := h
  induction n using Nat.strongRecOn with
  | _ n ih =>
    by_cases hm : ∃ m, m < n ∧ p m
    · obtain ⟨m, hlt, hp⟩ := hm; exact ih m hlt hp
    · exact ⟨n, hn, fun m hp => Nat.le_of_not_lt fun hlt => hm ⟨m, hlt, hp⟩⟩

theorem Post.weaken {β β' : Beta} {h h' : Hp} {w w' : World} {N : Nat} {r : Res} (f : Frm β h w β' h' w') : ∀ e a u, Post E β' h' w' N r e a u → Post E β h w N r e a u :=
  fun e a u ⟨h1, β'', h2, h3, h4⟩ => ⟨h1, β'', h2, h3, f.trans h4⟩

def LoopI (P : Program) (E : Env) (H : Hook) (b : Code) (r : Res) (N : Nat) (β : Beta) (h : Hp) (w : World) (K : Nat) (n : Nat) (a : Act) (u : World) : Prop :=
  n ≤ K ∧ ∃ fr h1 β1, evalCode P E.G H n (.loop b) fr h1 = some r ∧ FrR E β1 N fr a ∧ Rel E β1 h1 u ∧ Frm β h w β1 h1 u

open Classical in
noncomputable def loopM (P : Program) (E : Env) (H : Hook) (b : Code) (r : Res) (N : Nat) (β : Beta) (h : Hp) (w : World) (K : Nat) (a : Act) (u : World) : Nat :=
  if hx : ∃ n, LoopI P E H b r N β h w K n a u then Classical.choose (exists_min hx) else 0

theorem loopM_spec {b : Code} {r : Res} {N : Nat} {β : Beta} {h : Hp} {w : World} {K : Nat} {a : Act} {u : World} (hx : ∃ n, LoopI P E H b r N β h w K n a u) :
    LoopI P E H b r N β h w K (loopM P E H b r N β h w K a u) a u ∧ ∀ m, LoopI P E H b r N β h w K m a u → loopM P E H b r N β h w K a u ≤ m := by
  unfold loopM
  rw [dif_pos hx]
  exact Classical.choose_spec (exists_min hx)

theorem code_sound (hmix : P.follows .mixedOrders = true) {n : Nat} (hop : ∀ m ≤ n, OpSound P E H m) (hcode : ∀ m ≤ n, CodeSound P E H m) : CodeSound P E H (n + 1) := by
  intro c fr h r β w a N he hfit rel hf
  have here : ∀ {ex fr' h'}, r = ⟨ex, fr', h'⟩ → fr' = fr → h' = h → Post E β h w N r ex.toExit a w := fun hr h1 h2 => by
    subst hr; subst h1; subst h2; exact ⟨rfl, β, hf, rel, .refl _ _ _⟩
  have hc : CodeSound P E H n := fun {c fr h r β w a N} => hcode n (Nat.le_refl n)
  cases c with
  | skip =>
    simp only [evalCode, Option.some.injEq] at he
    exact wp_skip (here he.symm rfl rfl)
  | label l =>
    simp only [evalCode, Option.some.injEq] at he
    exact wp_label (here he.symm rfl rfl)
  | exit id =>
    simp only [evalCode, Option.some.injEq] at he
    exact wp_exit (here he.symm rfl rfl)
  | ret =>
    simp only [evalCode, Option.some.injEq] at he
    exact wp_ret (here he.symm rfl rfl)
  | region id ops draw =>
    cases draw with
    | true => exact draw_sound (n := n + 1) (fun m hm => hop m (by omega)) hmix hfit he rel hf
    | false =>
      simp only [evalCode] at he
      split at he
      · rename_i fr' h' ho
        simp only [Option.some.injEq] at he
        subst he
        refine wp_region (ops_sound ops n (fun m hm => hop m (by omega)) ops.toList (List.range ops.size) ?_ hfit ho rel hf fun a' β' w' h1 h2 h3 => ⟨rfl, β', h1, h2, h3⟩)
        apply List.ext_getElem (by simp)
        intro i h1 h2
        simp [Array.getElem?_eq_getElem (show i < ops.size by simpa using h2)]
      · cases he
  | seq x y =>
    simp only [fitsC, Bool.and_eq_true] at hfit
    simp only [evalCode] at he
    split at he
    · rename_i fr1 h1 hx
      refine wp_seq (wp_mono (hc hx hfit.1 rel hf) ?_)
      rintro e a' w' ⟨rfl, β', hf', rel', hfrm⟩
      exact wp_mono (hc he hfit.2 rel' hf') (Post.weaken hfrm)
    · rename_i hne
      cases hx : evalCode P E.G H n x fr h with
      | none => rw [hx] at he; cases he
      | some rx =>
        rw [hx] at he; simp only [Option.some.injEq] at he; subst he
        refine wp_seq (wp_mono (hc hx hfit.1 rel hf) ?_)
        rintro e a' w' ⟨rfl, hrest⟩
        obtain ⟨ex, fr1, h1⟩ := rx
        cases ex with
        | normal => exact absurd hx (hne _ _)
        | exit id => exact ⟨rfl, hrest⟩
        | goto l => exact ⟨rfl, hrest⟩
        | ret => exact ⟨rfl, hrest⟩
  | cond c x y =>
    simp only [fitsC, Bool.and_eq_true] at hfit
    simp only [evalCode] at he
    split at he
    · rename_i hv
      have := opdA_sound hf hv
      exact wp_cond_true (by generalize a.eval c = cv at this; cases this; rfl) (hc he hfit.1 rel hf)
    · rename_i hv
      have := opdA_sound hf hv
      exact wp_cond_false (by generalize a.eval c = cv at this; cases this; rfl) (hc he hfit.2 rel hf)
    · cases he
  | block id b =>
    simp only [evalCode] at he
    split at he
    · rename_i id' fr1 h1 hx
      refine wp_block (wp_mono (hc hx hfit rel hf) ?_)
      rintro e a' w' ⟨rfl, hrest⟩
      show if id' = id then _ else _
      cases hid : Nat.beq id' id with
      | true =>
        rw [hid, cond_true] at he; simp only [Option.some.injEq] at he; subst he
        rw [if_pos (Nat.eq_of_beq_eq_true hid)]
        exact ⟨rfl, hrest⟩
      | false =>
        rw [hid, cond_false] at he; simp only [Option.some.injEq] at he; subst he
        rw [if_neg (fun e => by rw [e, Nat.beq_refl] at hid; cases hid)]
        exact ⟨rfl, hrest⟩
    · rename_i hne
      cases hx : evalCode P E.G H n b fr h with
      | none => rw [hx] at he; cases he
      | some rx =>
        rw [hx] at he; simp only [Option.some.injEq] at he; subst he
        refine wp_block (wp_mono (hc hx hfit rel hf) ?_)
        rintro e a' w' ⟨rfl, hrest⟩
        obtain ⟨ex, fr1, h1⟩ := rx
        cases ex with
        | normal => exact ⟨rfl, hrest⟩
        | exit id => exact absurd hx (hne _ _ _)
        | goto l => exact ⟨rfl, hrest⟩
        | ret => exact ⟨rfl, hrest⟩
  | scope b =>
    simp only [evalCode] at he
    split at he
    · cases he
    · rename_i hne
      cases hx : evalCode P E.G H n b fr h with
      | none => rw [hx] at he; cases he
      | some rx =>
        rw [hx] at he; simp only [Option.some.injEq] at he; subst he
        refine wp_scope_straight (wp_mono (hc hx hfit rel hf) ?_)
        rintro e a' w' ⟨rfl, hrest⟩
        obtain ⟨ex, fr1, h1⟩ := rx
        cases ex with
        | normal => exact ⟨rfl, hrest⟩
        | exit id => exact ⟨rfl, hrest⟩
        | goto l => exact absurd hx (hne _ _ _)
        | ret => exact ⟨rfl, hrest⟩
  | loop b =>
    have h0 : ∃ m, LoopI P E H b r N β h w (n + 1) m a w := ⟨n + 1, Nat.le_refl _, fr, h, β, he, hf, rel, .refl _ _ _⟩
    refine wp_loop (fun a' u => ∃ m, LoopI P E H b r N β h w (n + 1) m a' u) (loopM P E H b r N β h w (n + 1)) h0 fun a' u hI => ?_
    have spec := loopM_spec hI
    generalize loopM P E H b r N β h w (n + 1) a' u = m at spec ⊢
    obtain ⟨⟨hle, fr1, h1, β1, hev, hf1, rel1, hfrm1⟩, hmin⟩ := spec
    cases m with
    | zero => simp [evalCode] at hev
    | succ m =>
      simp only [evalCode] at hev
      have hcm : CodeSound P E H m := fun {c fr h r β w a N} => hcode m (by omega)
      split at hev
      · rename_i fr2 h2 hx
        refine wp_mono (hcm hx hfit rel1 hf1) ?_
        rintro e a'' u' ⟨rfl, β2, hf2, rel2, hfrm2⟩
        have hI2 : LoopI P E H b r N β h w (n + 1) m a'' u' := ⟨by omega, fr2, h2, β2, hev, hf2, rel2, hfrm1.trans hfrm2⟩
        exact ⟨⟨m, hI2⟩, Nat.lt_succ_of_le ((loopM_spec ⟨m, hI2⟩).2 m hI2)⟩
      · rename_i hne
        cases hx : evalCode P E.G H m b fr1 h1 with
        | none => rw [hx] at hev; cases hev
        | some rx =>
          rw [hx] at hev; simp only [Option.some.injEq] at hev; subst hev
          refine wp_mono (hcm hx hfit rel1 hf1) ?_
          rintro e a'' u' ⟨rfl, β2, hf2, rel2, hfrm2⟩
          obtain ⟨ex, fr2, h2⟩ := rx
          cases ex with
          | normal => exact absurd hx (hne _ _)
          | exit id => exact ⟨rfl, β2, hf2, rel2, hfrm1.trans hfrm2⟩
          | goto l => exact ⟨rfl, β2, hf2, rel2, hfrm1.trans hfrm2⟩
          | ret => exact ⟨rfl, β2, hf2, rel2, hfrm1.trans hfrm2⟩
  | rangeFunc => simp [evalCode] at he
  | goto => simp [evalCode] at he
  | refuse => simp [evalCode] at he

theorem initFr_get : ∀ (l : List AVal) (i : Nat) (t : T AVal) (j : Nat), (initFr l i t).get j = if i ≤ j ∧ j < i + l.length then l[j - i]? else t.get j
  | [], i, t, j => by
    rw [initFr, if_neg]; simp
  | v :: l, i, t, j => by
    rw [initFr, initFr_get l]
    simp only [List.length_cons, T.get_set]
    by_cases hj : i = j
    · subst hj
      rw [if_neg (by omega), if_pos rfl, if_pos (by omega)]; simp
    · rw [if_neg hj]
      by_cases h2 : i + 1 ≤ j ∧ j < i + 1 + l.length
      · rw [if_pos h2, if_pos (by omega)]
        have : j - i = (j - (i + 1)) + 1 := by omega
        rw [this]; simp
      · rw [if_neg h2, if_neg (by omega)]

theorem FrR.init {β : Beta} {args : List AVal} {cargs : List Value} (hr : VRs E.ρ β args cargs) (N : Nat) :
    FrR E β N (initFr args 0 .e) { tmps := cargs.toArray ++ Array.replicate (N - cargs.toArray.size) undef, defers := [] } := by
  refine ⟨by simp; omega, fun t => ?_, rfl⟩
  rw [initFr_get]
  simp only [Nat.zero_le, true_and, Nat.zero_add, Nat.sub_zero, Array.getD_eq_getD_getElem?]
  by_cases ht : t < args.length
  · rw [if_pos ht]
    obtain ⟨v, hv, hvr⟩ := hr.get (List.getElem?_eq_getElem ht)
    rw [List.getElem?_eq_getElem ht, Array.getElem?_append_left (by simpa [← hr.length] using ht)]
    simp only [List.getElem?_toArray, hv, Option.getD_some]
    exact hvr
  · rw [if_neg ht]
    have hl := hr.length
    rw [Array.getElem?_append_right (by simp; omega)]
    rw [Array.getElem?_replicate]
    simp only [T.get_e, Option.getD_none]
    split <;> exact undef_VR

def resOne (tmps : Array Value) (x : ResultVar) : Sem Value := match x with
  | .tmp t => pure (tmps.getD t undef)
  | .cell a t => do loadVar t (← asAddr (tmps.getD a undef))
theorem results_eq (fn : Func) (tmps : Array Value) : results fn tmps = (do let vs ← fn.results.mapM (resOne tmps); pure (if h : vs.size = 1 then vs[0] else .tuple vs)) := by
  unfold results
  congr 2

theorem results_sound {β : Beta} {h : Hp} {w : World} {fr : T AVal} {a : Act} {N : Nat} (rel : Rel E β h w) (hf : FrR E β N fr a) : ∀ {l : List ResultVar} {vs : List AVal}, resultsA P h fr l = some vs →
    ∃ cvs, VRs E.ρ β vs cvs ∧ (l.mapM (resOne a.tmps)).run P w = .ok cvs w
  | [], vs, hr => by
    simp only [resultsA, Option.some.injEq] at hr; subst hr
    exact ⟨[], .nil, by simp⟩
  | x :: l, vs, hr => by
    simp only [resultsA, Option.bind_eq_bind, Option.pure_def] at hr
    cases h1 : resultA P h fr x with
    | none => rw [h1] at hr; cases hr
    | some y =>
      cases h2 : resultsA P h fr l with
      | none => rw [h1, h2] at hr; cases hr
      | some ys =>
        rw [h1, h2] at hr; simp only [Option.bind_some, Option.some.injEq] at hr; subst hr
        obtain ⟨cvs, hvs, hrun⟩ := results_sound rel hf h2
        cases x with
        | tmp t =>
          simp only [resultA, Option.some.injEq] at h1; subst h1
          have h3 : (resOne a.tmps (.tmp t)).run P w = .ok (a.tmps.getD t undef) w := rfl
          exact ⟨_ :: cvs, .cons (hf.val t) hvs, by rw [List.mapM_cons, Sem.run_bind, h3]; simp only [Result.andThen, Sem.run_bind, hrun]; rfl⟩
        | cell p t =>
          simp only [resultA] at h1
          have hp := hf.val p
          obtain ⟨cv, hl, hv⟩ := load_sound rel h1 hp
          have h3 : (resOne a.tmps (.cell p t)).run P w = .ok cv w := by
            revert hl
            show _ → (do loadVar t (← asAddr (a.tmps.getD p undef)) : Sem Value).run P w = _
            cases hx : (fr.get p).getD .undef with
            | ptr b off =>
              rw [hx] at hp
              generalize a.tmps.getD p undef = cp at hp ⊢
              cases hp
              exact fun hl => hl
            | _ => rw [hx] at h1; simp [loadA] at h1
          exact ⟨cv :: cvs, .cons hv hvs, by rw [List.mapM_cons, Sem.run_bind, h3]; simp only [Result.andThen, Sem.run_bind, hrun]; rfl⟩

theorem call_sound (hhook : HookOk P E H) (hfit : fitsP P = true) {n : Nat} (hcode : CodeSound P E H n) : CallSound P E H (n + 1) := by
  intro f args h v h' β w cargs he rel hr
  unfold evalCall at he
  split at he
  · rename_i res hh
    subst he
    obtain ⟨⟨fn, hf, hb⟩, hok⟩ := hhook.call f args h v h' hh
    exact .inr ⟨f, cargs.toArray, run_callFunc_enter hf hb (fits_enter hfit hf hb) _ _, hok β w cargs rel hr⟩
  · split at he
    · rename_i fn hf
      split at he
      · rename_i hb
        split at he
        · rename_i k hk
          exact .inl (ext_sound rel hf hb hk he hr)
        · cases he
      · rename_i c hb
        refine .inr ⟨f, cargs.toArray, run_callFunc_enter hf (by rw [hb]; rfl) (fits_enter hfit hf (by rw [hb]; rfl)) _ _, ?_⟩
        have hfc : fitsC fn.ntmps c = true := by
          have := fitsP_fn hfit hf
          unfold fitsFn at this
          rw [hb] at this; simp only [Bool.and_eq_true] at this; exact this.1
        refine calls_of_wp hf hb ?_
        have fin : ∀ {ex fr' h1}, evalCode P E.G H n c (initFr args 0 .e) h = some ⟨ex, fr', h1⟩ → (ex = .normal ∨ ex = .ret) →
            (match resultsA P h1 fr' fn.results.toList with
              | some [v] => some (v, h1)
              | some vs => some (.tuple vs, h1)
              | none => none) = some (v, h') →
            c.wp P (bodyPost P fn (Ret E β h w v h')) { tmps := cargs.toArray ++ Array.replicate (fn.ntmps - cargs.toArray.size) undef, defers := [] } w := by
          intro ex fr' h1 hev hex hres
          refine wp_mono (hcode hev hfc rel (FrR.init hr fn.ntmps)) ?_
          rintro e a' w' ⟨rfl, β', hf', rel', hfrm⟩
          have key : a'.defers = [] ∧ ∃ u, (results fn a'.tmps).run P w' = .ok u w' ∧ Ret E β h w v h' (.returned u) w' := by
            refine ⟨hf'.defers, ?_⟩
            cases hra : resultsA P h1 fr' fn.results.toList with
            | none => rw [hra] at hres; cases hres
            | some vs =>
              rw [hra] at hres
              obtain ⟨cvs, hvs, hrun⟩ := results_sound rel' hf' hra
              have hres' : (results fn a'.tmps).run P w' = .ok (if hs : cvs.toArray.size = 1 then cvs.toArray[0] else .tuple cvs.toArray) w' := by
                rw [results_eq, Array.mapM_eq_mapM_toList, Sem.run_bind, Sem.run_map, hrun]
                rfl
              refine ⟨_, hres', ?_⟩
              rcases vs with _ | ⟨x, _ | ⟨y, ys⟩⟩
              · simp only [Option.some.injEq, Prod.mk.injEq] at hres
                obtain ⟨rfl, rfl⟩ := hres
                cases hvs
                exact ⟨_, β', rfl, .tuple .nil, rel', hfrm⟩
              · simp only [Option.some.injEq, Prod.mk.injEq] at hres
                obtain ⟨rfl, rfl⟩ := hres
                cases hvs with | cons hx hs => cases hs; exact ⟨_, β', rfl, hx, rel', hfrm⟩
              · simp only [Option.some.injEq, Prod.mk.injEq] at hres
                obtain ⟨rfl, rfl⟩ := hres
                cases hvs with | cons hx hs => cases hs with | cons hy hz => exact ⟨_, β', by simp, .tuple (.cons hx (.cons hy hz)), rel', hfrm⟩
          rcases hex with rfl | rfl <;> exact key
        split at he
        · rename_i fr' h1 hev; exact fin hev (.inl rfl) he
        · rename_i fr' h1 hev; exact fin hev (.inr rfl) he
        · cases he
    · cases he

/-- The evaluator is sound. -/
theorem sound (hmix : P.follows .mixedOrders = true) (hfit : fitsP P = true) (hhook : HookOk P E H) : ∀ n, ∀ m ≤ n, OpSound P E H m ∧ CallSound P E H m ∧ CodeSound P E H m
  | 0, m, hm => by
    have : m = 0 := by omega
    subst this
    exact ⟨fun he => by simp [evalOp] at he, fun he => by simp [evalCall] at he, fun he => by simp [evalCode] at he⟩
  | n + 1, m, hm => by
    have ih := sound hmix hfit hhook n
    by_cases hlt : m ≤ n
    · exact ih m hlt
    · have : m = n + 1 := by omega
      subst this
      exact ⟨op_sound hhook (ih n (Nat.le_refl _)).2.1, call_sound hhook hfit (ih n (Nat.le_refl _)).2.2, code_sound hmix (fun m hm => (ih m hm).1) (fun m hm => (ih m hm).2.2)⟩

theorem calls_sound (hmix : P.follows .mixedOrders = true) (hfit : fitsP P = true) (hhook : HookOk P E H) {n : Nat} {f : FuncId} {fn : Func} (hf : P.funcs[f]? = some fn) (hb : fn.body.isSome = true)
    {args : List AVal} {h : Hp} {v : AVal} {h' : Hp} (he : evalCall P E.G H n f args h = some (v, h')) : CallOk P E f args h v h' := by
  intro β w cargs rel hr
  rcases (sound hmix hfit hhook n n (Nat.le_refl _)).2.1 he rel hr with ⟨nx, cv, β', w', hrun, hn, _⟩ | ⟨f', cargs', hrun, hc⟩
  · rw [run_callFunc_enter hf hb (fits_enter hfit hf hb)] at hrun
    rcases hn with rfl | ⟨rfl, _⟩ <;> cases hrun
  · rw [run_callFunc_enter hf hb (fits_enter hfit hf hb)] at hrun
    cases hrun
    exact hc
end
end Go.Ae
