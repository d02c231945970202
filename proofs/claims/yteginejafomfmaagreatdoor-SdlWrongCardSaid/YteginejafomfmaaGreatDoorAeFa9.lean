/- Calls: what the quick evaluator answers stands for every run of the model. Conditions: the functions that were compiled have regions in which no order matters (ordP), the elder evaluator's own conditions. -/
import Derived.Test.YteginejafomfmaaGreatDoorAeFa8
import Derived.Test.YteginejafomfmaaGreatDoorAeCode
set_option linter.unusedVariables false
set_option linter.unusedSimpArgs false
namespace Go.Ae
open Go
noncomputable section
section
variable {P : Program} {G : Nat → Option AVal} {H : Hook}

theorem frOf_rel : ∀ (args : List AVal) (i : Nat) (f : T AVal) (fr : FR) (t : Nat), t < 4096 → fr.at t = V.of (gd f t) → (frOf args i fr).at t = V.of (gd (initFr args i f) t)
  | [], i, f, fr, t, ht, h => h
  | v :: l, i, f, fr, t, ht, h => by
    have e1 : frOf (v :: l) i fr = frOf l (i + 1) ((spSlot i).put (V.of v) fr) := rfl
    have e2 : initFr (v :: l) i f = initFr l (i + 1) (f.set i v) := rfl
    rw [e1, e2]
    refine frOf_rel l (i + 1) _ _ t ht ?_
    rw [FR.at_put' ht, gd_set]
    split
    · rfl
    · exact h
theorem frOf_start (loc : Nat) (args : List AVal) : FrRel loc (initFr args 0 .e) (frOf args 0 .e) := fun t _ ht => by
  refine frOf_rel args 0 .e .e t ht ?_
  rw [FR.at_e]
  unfold gd; rw [T.get_e]; rfl

theorem tmpsR_spec : ∀ (l : List ResultVar) (ts : List Nat), tmpsR l = some ts → l = ts.map ResultVar.tmp
  | [], ts, h => by cases h; rfl
  | r :: l, ts, h => by
    have e : tmpsR (r :: l) = ResultVar.rec (fun t => Option.rec none (fun l => some (t :: l)) (tmpsR l)) (fun _ _ => none) r := rfl
    rw [e] at h
    cases r with
    | cell a t => cases h
    | tmp t =>
      cases hl : tmpsR l with
      | none => rw [hl] at h; cases h
      | some m =>
        rw [hl] at h
        simp only [Option.some.injEq] at h
        subst h
        rw [tmpsR_spec l m hl]; rfl
theorem resultsA_tmps (h : Hp) (f : T AVal) : ∀ ts : List Nat, resultsA P h f (ts.map ResultVar.tmp) = some (ts.map (gd f))
  | [] => rfl
  | t :: ts => by simp [resultsA, resultsA_tmps h f ts, resultA]; rfl
theorem evV_eq (l : List Nat) (f : T AVal) (fr : FR) (h : ∀ t ∈ l, fr.at t = V.of (gd f t)) : evV (l.map (xSlot 0)) fr = l.map (gd f) := by
  induction l with
  | nil => rfl
  | cons t l ih =>
    have e : evV ((t :: l).map (xSlot 0)) fr = ((xSlot 0 t).ev fr env0).v :: evV (l.map (xSlot 0)) fr := rfl
    rw [e, ih fun s hs => h s (List.mem_cons_of_mem _ hs)]
    have : (xSlot 0 t).ev fr env0 = V.of (gd f t) := h t (List.mem_cons_self ..)
    rw [this, V.of_v]; rfl
theorem resultsA_congr (h : Hp) {f f0 : T AVal} : ∀ l : List ResultVar, (∀ t ∈ slotsV l, gd f t = gd f0 t) → resultsA P h f l = resultsA P h f0 l
  | [], _ => rfl
  | r :: l, hs => by
    have h1 : resultA P h f r = resultA P h f0 r := by
      cases r with
      | tmp t =>
        have e : gd f t = gd f0 t := hs t (List.mem_cons_self ..)
        show some (gd f t) = some (gd f0 t)
        rw [e]
      | cell a t =>
        have e : gd f a = gd f0 a := hs a (List.mem_cons_self ..)
        show loadA P h t (gd f a) = loadA P h t (gd f0 a)
        rw [e]
    have h2 := resultsA_congr h l fun t ht => hs t (List.mem_cons_of_mem _ ht)
    simp only [resultsA, h1, h2]

/-- How the function ends, in the elder evaluator's words. -/
theorem call_end {f : FuncId} {fn : Func} {c : Code} {args : List AVal} {h h' : Hp} {M : Nat} {ex : Ex} {f' : T AVal} {vs : List AVal} (hh : H.call f args h = none) (hf : P.funcs[f]? = some fn) (hb : fn.body = some c) (hex : ex = .normal ∨ ex = .ret)
    (he : evalCode P G H M c (initFr args 0 .e) h = some ⟨ex, f', h'⟩) (hr : resultsA P h' f' fn.results.toList = some vs) : evalCall P G H (M + 1) f args h = some ((match vs with | [v] => v | vs => .tuple vs), h') := by
  unfold evalCall
  rw [hh]
  simp only [hf, hb, he]
  rcases hex with rfl | rfl <;> (simp only [hr]; rcases vs with _ | ⟨x, _ | ⟨y, ys⟩⟩ <;> rfl)

theorem compF_ok {locs : FuncId → Nat} {call : CallF} (hc : CallGood P G H call) {f : FuncId} {fn : Func} {c : Code} {loc : Nat} {args : List AVal} {h : Hp} {k : KV} (hh : H.call f args h = none) (hf : P.funcs[f]? = some fn) (hb : fn.body = some c) (ho : ordC P c = true)
    (hg : Good ((compF loc P fn c).run ⟨P, G, H, call⟩ args (frOf args 0 .e) h k)) :
    ∃ n v h', evalCall P G H n f args h = some (v, h') ∧ (compF loc P fn c).run ⟨P, G, H, call⟩ args (frOf args 0 .e) h k = k (V.of v) h' := by
  unfold compF at hg ⊢
  cases hcl : clear loc (slotsV fn.results.toList) with
  | false => simp only [hcl] at hg; exact (not_good _ hg).elim
  | true =>
    simp only [hcl] at hg ⊢
    have hcode := compC_ok P G H loc c ho
    -- the three ways to hand results back
    have main : ∀ (K : KS), Good ((compC loc P c).run ⟨P, G, H, call⟩ (frOf args 0 .e) h K (fun _ _ _ => .bad 44) K) →
        ∃ M ex f' h' fr', (ex = .normal ∨ ex = .ret) ∧ evalCode P G H M c (initFr args 0 .e) h = some ⟨ex, f', h'⟩ ∧ FrRel loc f' fr' ∧ (compC loc P c).run ⟨P, G, H, call⟩ (frOf args 0 .e) h K (fun _ _ _ => .bad 44) K = K fr' h' := by
      intro K hg
      obtain ⟨M, ex, f', h', fr', e1, e2, e3⟩ := hcode call hc _ _ h K (fun _ _ _ => .bad 44) K (frOf_start loc args) hg
      rw [e3] at hg
      cases ex with
      | normal => exact ⟨M, .normal, f', h', fr', .inl rfl, e1, e2, e3⟩
      | ret => exact ⟨M, .ret, f', h', fr', .inr rfl, e1, e2, e3⟩
      | exit id => exact (not_good _ hg).elim
      | goto l => exact (not_good _ hg).elim
    cases ht : tmpsR fn.results.toList with
    | some ts =>
      simp only [ht] at hg ⊢
      have hres := tmpsR_spec _ _ ht
      have hin : ∀ t ∈ ts, t ∈ slotsV fn.results.toList := by
        intro t h1; rw [hres]; unfold slotsV; rw [List.map_map]; exact List.mem_map.2 ⟨t, h1, rfl⟩
      have hat : ∀ {f' : T AVal} {fr' : FR}, FrRel loc f' fr' → ∀ t ∈ ts, fr'.at t = V.of (gd f' t) := fun hr t h1 => let ⟨q1, q2⟩ := clear_spec hcl (hin t h1); hr t q1 q2
      have many : Good ((dMany (compC loc P c) (ts.map (xSlot 0))).run ⟨P, G, H, call⟩ args (frOf args 0 .e) h k) → (∀ t, ts ≠ [t]) →
          ∃ n v h', evalCall P G H n f args h = some (v, h') ∧ (dMany (compC loc P c) (ts.map (xSlot 0))).run ⟨P, G, H, call⟩ args (frOf args 0 .e) h k = k (V.of v) h' := by
        intro hg hne
        obtain ⟨M, ex, f', h', fr', hex, e1, e2, e3⟩ := main (fun fr h => k (V.ofT (evV (ts.map (xSlot 0)) fr)) h) hg
        refine ⟨M + 1, .tuple (ts.map (gd f')), h', ?_, ?_⟩
        · have := call_end hh hf hb hex e1 (by rw [hres]; exact resultsA_tmps h' f' ts)
          rw [this]
          rcases ts with _ | ⟨x, _ | ⟨y, ys⟩⟩
          · rfl
          · exact absurd rfl (hne x)
          · rfl
        · have e3' : (dMany (compC loc P c) (ts.map (xSlot 0))).run ⟨P, G, H, call⟩ args (frOf args 0 .e) h k = _ := e3
          rw [e3', evV_eq ts f' fr' (hat e2)]; rfl
      rcases ts with _ | ⟨x, _ | ⟨y, ys⟩⟩
      · exact many hg (fun t h => by cases h)
      · obtain ⟨M, ex, f', h', fr', hex, e1, e2, e3⟩ := main (fun fr h => k ((xSlot 0 x).ev fr env0) h) hg
        refine ⟨M + 1, gd f' x, h', ?_, ?_⟩
        · exact call_end hh hf hb hex e1 (by rw [hres]; exact resultsA_tmps h' f' [x])
        · have e3' : (dOne (compC loc P c) (xSlot 0 x)).run ⟨P, G, H, call⟩ args (frOf args 0 .e) h k = k ((xSlot 0 x).ev fr' env0) h' := e3
          have hx : (xSlot 0 x).ev fr' env0 = V.of (gd f' x) := hat e2 x (List.mem_cons_self ..)
          rw [hx] at e3'; exact e3'
      · exact many hg (fun t h => by cases h)
    | none =>
      simp only [ht] at hg ⊢
      obtain ⟨M, ex, f', h', fr', hex, e1, e2, e3⟩ := main (fun fr h => resT fn.results.toList (slotsV fn.results.toList) ⟨P, G, H, call⟩ fr h k) hg
      have e3' : (dSlow (compC loc P c) fn.results.toList (slotsV fn.results.toList)).run ⟨P, G, H, call⟩ args (frOf args 0 .e) h k = resT fn.results.toList (slotsV fn.results.toList) ⟨P, G, H, call⟩ fr' h' k := e3
      rw [e3'] at hg ⊢
      have hcg : resultsA P h' (takeF (slotsV fn.results.toList) fr') fn.results.toList = resultsA P h' f' fn.results.toList := by
        refine resultsA_congr h' _ fun t h1 => ?_
        obtain ⟨q1, q2⟩ := clear_spec hcl h1
        rw [takeF_gd _ _ _ h1, e2 t q1 q2, V.of_v]
      unfold resT at hg ⊢
      simp only at hg ⊢
      rw [hcg] at hg ⊢
      cases hvs : resultsA P h' f' fn.results.toList with
      | none => rw [hvs] at hg; exact (not_good _ hg).elim
      | some vs =>
        rw [hvs] at hg
        refine ⟨M + 1, _, h', call_end hh hf hb hex e1 hvs, ?_⟩
        rcases vs with _ | ⟨x, _ | ⟨y, ys⟩⟩ <;> rfl

theorem ordP_spec {locs : FuncId → Nat} (h : ordP P locs = true) {f : FuncId} {fn : Func} {c : Code} (hf : P.funcs[f]? = some fn) (hb : fn.body = some c) (hl : hasB (locs f) 0 = true) : ordC P c = true := by
  unfold ordP at h
  have hm : (fn, f) ∈ P.funcs.toList.zipIdx := by
    rw [List.mem_zipIdx_iff_getElem?]
    rw [Array.getElem?_toList]; exact hf
  have := List.all_eq_true.1 h _ hm
  simp only [hb, hl] at this
  exact this

theorem runCall_ok {locs : FuncId → Nat} (hord : ordP P locs = true) : ∀ n, CallGood P G H (runCall P G H locs n)
  | 0 => fun f args h k hg => (not_good _ hg).elim
  | n + 1 => by
    intro f args h k hg
    have ih := runCall_ok hord n
    have e : runCall P G H locs (n + 1) f args (frOf args 0 .e) h k = Option.rec (motive := fun _ => CallF → FuncId → List AVal → FR → Hp → KV → Out)
      (fun call f args fr h k => (funD P locs f).run ⟨P, G, H, call⟩ args fr h k)
      (fun r _ _ _ _ _ k => Option.rec (motive := fun _ => KV → Out) (fun _ => .bad 48) (fun p k => k (V.of p.1) p.2) r k) (H.call f args h) (runCall P G H locs n) f args (frOf args 0 .e) h k := rfl
    rw [e] at hg ⊢
    cases hh : H.call f args h with
    | some r =>
      simp only [hh] at hg ⊢
      cases r with
      | none => exact (not_good _ hg).elim
      | some p =>
        refine ⟨1, p.1, p.2, ?_, rfl⟩
        unfold evalCall; rw [hh]
    | none =>
      simp only [hh] at hg ⊢
      unfold funD at hg ⊢
      rw [nthC_eq, Array.getElem?_toList] at hg ⊢
      cases hf : P.funcs[f]? with
      | none => simp only [hf] at hg; exact (not_good _ hg).elim
      | some fn =>
        simp only [hf] at hg ⊢
        cases hb : fn.body with
        | none =>
          simp only [hb] at hg ⊢
          cases hx : extOf fn with
          | none => simp only [hx] at hg; exact (not_good _ hg).elim
          | some x =>
            simp only [hx] at hg ⊢
            cases he : evalExt P x fn args h with
            | none =>
              have : (dExt x fn).run ⟨P, G, H, runCall P G H locs n⟩ args (frOf args 0 .e) h k = .bad 45 := by
                show (match evalExt P x fn args h with | some (v, h) => k (V.of v) h | none => .bad 45) = _
                rw [he]
              rw [this] at hg; exact (not_good _ hg).elim
            | some p =>
              refine ⟨1, p.1, p.2, ?_, ?_⟩
              · unfold evalCall; rw [hh]; simp only [hf, hb, hx, he]
              · show (match evalExt P x fn args h with | some (v, h) => k (V.of v) h | none => .bad 45) = _
                rw [he]
        | some c =>
          simp only [hb] at hg ⊢
          cases hl : hasB (locs f) 0 with
          | false => simp only [hl] at hg; exact (not_good _ hg).elim
          | true =>
            simp only [hl] at hg ⊢
            exact compF_ok (locs := locs) ih hh hf hb (ordP_spec hord hf hb hl) hg
/-- What the quick evaluator answers, the elder one answers. -/
theorem fast_eval {locs : FuncId → Nat} (hord : ordP P locs = true) {f : FuncId} {args : List AVal} {h h' : Hp} {v : AVal} (he : fast P G H locs f args h = .ok v h') : ∃ n, evalCall P G H n f args h = some (v, h') := by
  have hg : Good (fast P G H locs f args h) := by rw [he]; intro n e; cases e
  obtain ⟨n, v', h1, e1, e2⟩ := runCall_ok (P := P) (G := G) (H := H) hord 10000 f args h (fun v h => .ok v.v h) hg
  have e2' : fast P G H locs f args h = .ok (V.of v').v h1 := e2
  rw [he, V.of_v] at e2'
  cases e2'
  exact ⟨n, e1⟩
/-- The quick evaluator is sound. -/
theorem fast_sound {E : Env} {locs : FuncId → Nat} (hmix : P.follows .mixedOrders = true) (hfit : fitsP P = true) (hord : ordP P locs = true) (hhook : HookOk P E H) {f : FuncId} {fn : Func} (hf : P.funcs[f]? = some fn) (hb : fn.body.isSome = true)
    {args : List AVal} {h : Hp} {v : AVal} {h' : Hp} (he : fast P E.G H locs f args h = .ok v h') : CallOk P E f args h v h' := by
  obtain ⟨n, hn⟩ := fast_eval hord he
  exact calls_sound hmix hfit hhook hf hb hn
end
end
end Go.Ae
