/- Regions whose order the run draws: those without effects, and the others. No condition. -/
import Derived.Test.YteginejafomfmaaGreatDoorAeFa6
import Derived.Test.YteginejafomfmaaGreatDoorAeOrd
set_option linter.unusedVariables false
set_option linter.unusedSimpArgs false
namespace Go.Ae
open Go
noncomputable section

def quietH (H : Hook) : Hook := ⟨H.call, fun _ _ _ => none⟩
def FrRel (loc : Nat) (f : T AVal) (fr : FR) : Prop := ∀ t, hasB loc t = false → t < 4096 → fr.at t = V.of (gd f t)
theorem Inv.start {loc : Nat} {f : T AVal} {fr : FR} (h : FrRel loc f fr) : Inv loc 0 CS.init f fr env0 where
  nl := h
  lk := fun t e h => by simp [CS.init] at h
  wf := fun t e m h => by simp [CS.init] at h
  nf := fun t e m h => by simp [CS.init] at h
  ent := fun t e h => by simp [CS.init] at h
  un := fun t e g h => by simp [CS.init] at h
  gm := fun t e g h => by simp [CS.init] at h

section
variable {P : Program} {G : Nat → Option AVal} {H : Hook} {loc : Nat}

theorem callGood_bad (w : Nat) : CallGood P G H (fun _ _ _ _ _ => .bad w) := fun f args h k hg => (not_good w hg).elim

/- quiet regions -/
theorem quiet_op {N : Nat} {f : T AVal} {h h' : Hp} {o : Oper} {v : AVal} (hq : quietO P o = true) (he : evalOp P G (quietH H) N f h o = some (v, h')) :
    h' = h ∧ ((kindOf P o = .pure ∧ pureOp P f o = some v) ∨ (kindOf P o = .read ∧ readOp P G f h o = some v)) := by
  cases N with
  | zero => simp [evalOp] at he
  | succ N =>
    unfold evalOp at he
    unfold quietO at hq
    cases hk : kindOf P o with
    | pure =>
      rw [hk] at he
      simp only at he
      cases hp : pureOp P f o with
      | some w => rw [hp] at he; cases he; exact ⟨rfl, .inl ⟨rfl, rfl⟩⟩
      | none =>
        rw [hp] at he
        simp only [quietH] at he
        split at he
        · split at he
          · cases he
          · cases he
        · cases he
    | read =>
      rw [hk] at he
      simp only at he
      cases hp : readOp P G f h o with
      | some w => rw [hp] at he; cases he; exact ⟨rfl, .inr ⟨rfl, rfl⟩⟩
      | none => rw [hp] at he; cases he
    | alloc => rw [hk] at hq; cases hq
    | eff => rw [hk] at hq; cases hq

theorem quiet_draw {all : List Oper} {p : Plan} : ∀ (l : List Oper) (N i : Nat) (s : DS) (f' : T AVal) (h' : Hp), l.all (quietO P) = true → evalOps P G (quietH H) N all l s.fr s.h = some (f', h') →
    h' = s.h ∧ ∃ rds, evalDraw P G H (l.length + 1) all l p i s = some ⟨f', s.h, s.pend, s.hs, rds⟩ ∧ ∀ r ∈ rds, r ∈ s.rds ∨ readOp P G r.fr s.h r.o = some r.v
  | [], N, i, s, f', h', hq, he => by
    cases N with
    | zero => simp [evalOps] at he
    | succ N =>
      simp only [evalOps, Option.some.injEq, Prod.mk.injEq] at he
      obtain ⟨rfl, rfl⟩ := he
      exact ⟨rfl, s.rds, by simp [evalDraw], fun r hr => .inl hr⟩
  | o :: l, N, i, s, f', h', hq, he => by
    simp only [List.all_cons, Bool.and_eq_true] at hq
    cases N with
    | zero => simp [evalOps] at he
    | succ N =>
      unfold evalOps at he
      unfold evalDraw
      cases hw : wantedA all s.fr o with
      | true =>
        rw [hw, cond_true] at he
        simp only [List.length_cons]
        rw [cond_true]
        cases hop : evalOp P G (quietH H) N s.fr s.h o with
        | none => rw [hop] at he; cases he
        | some vh =>
          obtain ⟨v, h1⟩ := vh
          rw [hop] at he
          simp only at he
          obtain ⟨rfl, hk | hk⟩ := quiet_op hq.1 hop
          · obtain ⟨e1, rds, e2, e3⟩ := quiet_draw l N (i + 1) ⟨putA s.fr o.dst v, s.h, s.pend, s.hs, s.rds⟩ f' h' hq.2 he
            exact ⟨e1, rds, by rw [hk.1]; simp only [hk.2]; exact e2, e3⟩
          · obtain ⟨e1, rds, e2, e3⟩ := quiet_draw l N (i + 1) ⟨putA s.fr o.dst v, s.h, s.pend, s.hs, ⟨o, s.fr, v, (p.ws.getD i (0, 0)).1, (p.ws.getD i (0, 0)).2⟩ :: s.rds⟩ f' h' hq.2 he
            refine ⟨e1, rds, by rw [hk.1]; simp only [hk.2]; exact e2, fun r hr => ?_⟩
            rcases e3 r hr with h | h
            · rcases List.mem_cons.1 h with h | h
              · subst h; exact .inr hk.2
              · exact .inl h
            · exact .inr h
      | false =>
        rw [hw, cond_false] at he
        simp only [List.length_cons]
        rw [cond_false]
        obtain ⟨e1, rds, e2, e3⟩ := quiet_draw l N (i + 1) ⟨putA s.fr o.dst .undef, s.h, s.pend, s.hs, s.rds⟩ f' h' hq.2 he
        refine ⟨e1, rds, ?_, e3⟩
        have hne : kindOf P o ≠ .eff := by
          intro hk; have := hq.1; unfold quietO at this; rw [hk] at this; cases this
        split
        · rename_i hk; exact absurd hk hne
        · exact e2

theorem tail_quiet {ops : List Oper} (hq : ops.all (quietO P) = true) : tailOf P ops = ops.length := by
  have hch : chained P ops ops.length = true := by
    unfold chained
    simp only [List.all_eq_true]
    intro j hj
    have : (effMask P ops).testBit j = false := by
      cases hb : (effMask P ops).testBit j with
      | false => rfl
      | true =>
        obtain ⟨o, ho, he⟩ := testBit_effMask.1 hb
        have := List.all_eq_true.1 hq o (List.mem_of_getElem? ho)
        unfold quietO at this
        unfold isEff at he
        cases hk : kindOf P o <;> rw [hk] at this he <;> simp at this he
    rw [this]; rfl
  unfold tailOf
  simp only [hch, if_true]
theorem quiet_code {id : Nat} {ops : Array Oper} {f f' : T AVal} {h h' : Hp} {N : Nat} (hq : ops.toList.all (quietO P) = true) (ho : orderly P ops.toList = true)
    (he : evalOps P G (quietH H) N ops.toList ops.toList f (h.bump ops.toList.length) = some (f', h')) : ∃ M, evalCode P G H M (.region id ops true) f h = some ⟨.normal, f', h'⟩ := by
  obtain ⟨rfl, rds, e2, e3⟩ := quiet_draw (P := P) (G := G) (H := H) (all := ops.toList) (p := planOf P ops.toList h.next) ops.toList N 0 ⟨f, h.bump ops.toList.length, [], [], []⟩ f' h' hq he
  refine ⟨ops.toList.length + 1 + 1, ?_⟩
  unfold evalCode
  simp only
  rw [ho, cond_true]
  have ht : (planOf P ops.toList h.next).tail = ops.toList.length := tail_quiet hq
  rw [ht, List.take_length, List.drop_length]
  have e2' : evalDraw P G H (ops.toList.length + 1) ops.toList ops.toList (planOf P ops.toList h.next) 0 ⟨f, ⟨h.t, h.next + ops.toList.length⟩, [], [], []⟩ = some ⟨f', h.bump ops.toList.length, [], [], rds⟩ := e2
  rw [e2']
  simp only
  have hag : rds.all (agree P G ([] ++ [h.bump ops.toList.length])) = true := by
    rw [List.all_eq_true]
    intro r hr
    rcases e3 r hr with h1 | h1
    · cases h1
    · unfold agree
      simp only [List.nil_append, List.zipIdx_cons, List.zipIdx_nil, List.all_cons, List.all_nil, Bool.and_true]
      have h1' : readOp P G r.fr (h.bump ops.toList.length) r.o = some r.v := h1
      simp only [h1', beqV_refl _ _ (Nat.lt_succ_self _), Bool.or_true]
  rw [hag, cond_true]
  simp [evalTail, publishAll]

/- the others -/
def Agr (S : Nat → Prop) (f f0 : T AVal) : Prop := ∀ t, S t → gd f t = gd f0 t
theorem Agr.put {S : Nat → Prop} {f f0 : T AVal} (h : Agr S f f0) (dst : Option Tmp) (v : AVal) : Agr (fun t => S t ∨ dst = some t) (putA f dst v) (putA f0 dst v) := by
  intro t ht
  cases dst with
  | none => rcases ht with ht | ht; exact h t ht; cases ht
  | some d =>
    simp only [putA]
    rw [gd_set, gd_set]
    split
    · rfl
    · rename_i hne
      rcases ht with ht | ht
      · exact h t ht
      · cases ht; exact absurd rfl hne
theorem Agr.mono {S S' : Nat → Prop} {f f0 : T AVal} (h : Agr S f f0) (hs : ∀ t, S' t → S t) : Agr S' f f0 := fun t ht => h t (hs t ht)
theorem Agr.opd {S : Nat → Prop} {f f0 : T AVal} (h : Agr S f f0) {ops : List Oper} {o : Oper} (hl : ∀ t ∈ looksA ops o, S t) : ∀ x ∈ o.op.operands, opdA f0 x = opdA f x := by
  intro x hx
  cases x with
  | tmp t =>
    rw [opdA_tmp, opdA_tmp, h t (hl t ?_)]
    unfold looksA
    refine List.mem_append_left _ (List.mem_filterMap.2 ⟨.tmp t, by simpa using hx, rfl⟩)
  | _ => rfl
theorem Agr.wanted {S : Nat → Prop} {f f0 : T AVal} (h : Agr S f f0) {ops : List Oper} {o : Oper} (hl : ∀ t ∈ looksA ops o, S t) : wantedA ops f0 o = wantedA ops f o := by
  unfold wantedA
  cases hg : o.guard with
  | none => rfl
  | some jw =>
    obtain ⟨j, w⟩ := jw
    simp only
    congr 1
    unfold yieldA
    cases hd : (ops[j]?).bind (·.dst) with
    | none => rfl
    | some d =>
      have hS : S d := hl d (by
        unfold looksA
        refine List.mem_append_right _ ?_
        rw [hg]; simp [hd])
      have e := h d hS
      simp only
      unfold gd at e
      cases h1 : f.get d with
      | none =>
        rw [h1] at e
        cases h2 : f0.get d with
        | none => rfl
        | some b => rw [h2] at e; simp only [Option.getD_none, Option.getD_some] at e; subst e; rfl
      | some a =>
        rw [h1] at e
        cases h2 : f0.get d with
        | none => rw [h2] at e; simp only [Option.getD_none, Option.getD_some] at e; subst e; rfl
        | some b => rw [h2] at e; simp only [Option.getD_some] at e; subst e; rfl

structure DSR (S : Nat → Prop) (ops : List Oper) (s s0 : DS) : Prop where
  fr : Agr S s.fr s0.fr
  h : s.h = s0.h
  pend : s.pend = s0.pend
  hs : s.hs = s0.hs
  rds : ∀ r ∈ s.rds, ∃ r0 ∈ s0.rds, r.o = r0.o ∧ r.v = r0.v ∧ r.lo = r0.lo ∧ r.hi = r0.hi ∧ ∀ x ∈ r.o.op.operands, opdA r.fr x = opdA r0.fr x

theorem draw_congr {ops : List Oper} {p : Plan} {call : CallF} (hc : CallGood P G H call) : ∀ (l : List Oper) (i : Nat) (s s0 : DS) (S : Nat → Prop) (k : DS → Out), (∀ o ∈ l, ∀ t ∈ looksA ops o, S t) → DSR S ops s s0 →
    Good (drawK ops p.base p.pre p.ws ⟨P, G, H, call⟩ l i s0 k) →
    ∃ N sF s0F, evalDraw P G H N ops l p i s = some sF ∧ DSR (fun t => S t ∨ ∃ o ∈ l, o.dst = some t) ops sF s0F ∧ (∀ t, (∀ o ∈ l, o.dst ≠ some t) → gd sF.fr t = gd s.fr t) ∧ drawK ops p.base p.pre p.ws ⟨P, G, H, call⟩ l i s0 k = k s0F
  | [], i, s, s0, S, k, hl, hr, hg => ⟨1, s, s0, by simp [evalDraw], ⟨hr.fr.mono (fun t ht => by rcases ht with h | ⟨o, ho, _⟩; exact h; cases ho), hr.h, hr.pend, hr.hs, hr.rds⟩, fun _ _ => rfl, rfl⟩
  | o :: l, i, s, s0, S, k, hl, hr, hg => by
    have hlo : ∀ t ∈ looksA ops o, S t := hl o (List.mem_cons_self ..)
    have hW := hr.fr.wanted (ops := ops) (o := o) hlo
    have hO := hr.fr.opd (ops := ops) (o := o) hlo
    have hl' : ∀ o' ∈ l, ∀ t ∈ looksA ops o', (fun t => S t ∨ o.dst = some t) t := fun o' ho' t ht => .inl (hl o' (List.mem_cons_of_mem _ ho') t ht)
    -- what stands behind one step
    have fin : ∀ {v : AVal} {s1 s01 : DS}, DSR (fun t => S t ∨ o.dst = some t) ops s1 s01 → s1.fr = putA s.fr o.dst v → Good (drawK ops p.base p.pre p.ws ⟨P, G, H, call⟩ l (Nat.succ i) s01 k) → (∀ N sF, evalDraw P G H N ops l p (i + 1) s1 = some sF → ∃ M, evalDraw P G H M ops (o :: l) p i s = some sF) →
        ∃ N sF s0F, evalDraw P G H N ops (o :: l) p i s = some sF ∧ DSR (fun t => S t ∨ ∃ o' ∈ o :: l, o'.dst = some t) ops sF s0F ∧ (∀ t, (∀ o' ∈ o :: l, o'.dst ≠ some t) → gd sF.fr t = gd s.fr t) ∧ drawK ops p.base p.pre p.ws ⟨P, G, H, call⟩ l (Nat.succ i) s01 k = k s0F := by
      intro v s1 s01 hr1 hf1 hg1 hstep
      obtain ⟨N, sF, s0F, h1, h2, h3, h4⟩ := draw_congr hc l (i + 1) s1 s01 _ k hl' hr1 hg1
      obtain ⟨M, hM⟩ := hstep N sF h1
      refine ⟨M, sF, s0F, hM, ⟨h2.fr.mono fun t ht => ?_, h2.h, h2.pend, h2.hs, h2.rds⟩, fun t ht => ?_, h4⟩
      · rcases ht with h | ⟨o', ho', hd⟩
        · exact .inl (.inl h)
        · rcases List.mem_cons.1 ho' with h | h
          · subst h; exact .inl (.inr hd)
          · exact .inr ⟨o', h, hd⟩
      · rw [h3 t fun o' ho' => ht o' (List.mem_cons_of_mem _ ho'), hf1]
        have hne := ht o (List.mem_cons_self ..)
        cases hd : o.dst with
        | none => rfl
        | some d => simp only [putA]; rw [gd_set, if_neg]; intro e; subst e; exact hne hd
    have e : drawK ops p.base p.pre p.ws ⟨P, G, H, call⟩ (o :: l) i s0 k = (match wantedA ops s0.fr o with
      | true => match kindOf P o with
        | .pure => match pureOp P s0.fr o with
          | some v => drawK ops p.base p.pre p.ws ⟨P, G, H, call⟩ l (Nat.succ i) ⟨putA s0.fr o.dst v, s0.h, s0.pend, s0.hs, s0.rds⟩ k
          | none => .bad 60
        | .read => match readOp P G s0.fr s0.h o with
          | some v => drawK ops p.base p.pre p.ws ⟨P, G, H, call⟩ l (Nat.succ i) ⟨putA s0.fr o.dst v, s0.h, s0.pend, s0.hs, ⟨o, s0.fr, v, (p.ws.getD i (0, 0)).1, (p.ws.getD i (0, 0)).2⟩ :: s0.rds⟩ k
          | none => .bad 61
        | .alloc => match allocOp P s0.fr (p.base + i) o with
          | some (v, b) => drawK ops p.base p.pre p.ws ⟨P, G, H, call⟩ l (Nat.succ i) ⟨putA s0.fr o.dst v, s0.h, (i, b) :: s0.pend, s0.hs, s0.rds⟩ k
          | none => .bad 62
        | .eff => slowT o s0.fr ⟨P, G, H, call⟩ (publish p.base (p.pre.getD i 0) s0.pend s0.h) (fun v h' => drawK ops p.base p.pre p.ws ⟨P, G, H, call⟩ l (Nat.succ i) ⟨putA s0.fr o.dst v.v, h', s0.pend.filter fun x => !(p.pre.getD i 0).testBit x.1, s0.hs ++ [s0.h], s0.rds⟩ k)
      | false => match kindOf P o with
        | .eff => drawK ops p.base p.pre p.ws ⟨P, G, H, call⟩ l (Nat.succ i) ⟨putA s0.fr o.dst .undef, s0.h, s0.pend, s0.hs ++ [s0.h], s0.rds⟩ k
        | _ => drawK ops p.base p.pre p.ws ⟨P, G, H, call⟩ l (Nat.succ i) ⟨putA s0.fr o.dst .undef, s0.h, s0.pend, s0.hs, s0.rds⟩ k) := rfl
    rw [e] at hg ⊢
    cases hw : wantedA ops s.fr o with
    | true =>
      rw [hw] at hW
      simp only [hW] at hg ⊢
      cases hk : kindOf P o with
      | pure =>
        simp only [hk] at hg ⊢
        rw [pureOp_congr hO] at hg ⊢
        cases hp : pureOp P s.fr o with
        | none => simp only [hp] at hg; exact (not_good _ hg).elim
        | some v =>
          simp only [hp] at hg ⊢
          refine fin (v := v) (s1 := ⟨putA s.fr o.dst v, s.h, s.pend, s.hs, s.rds⟩) ⟨hr.fr.put o.dst v, hr.h, hr.pend, hr.hs, hr.rds⟩ rfl hg fun N sF h => ⟨N + 1, ?_⟩
          unfold evalDraw; rw [hw, cond_true, hk]; simp only [hp]; exact h
      | read =>
        simp only [hk] at hg ⊢
        rw [readOp_congr hO, ← hr.h] at hg ⊢
        cases hp : readOp P G s.fr s.h o with
        | none => simp only [hp] at hg; exact (not_good _ hg).elim
        | some v =>
          simp only [hp] at hg ⊢
          refine fin (v := v) (s1 := ⟨putA s.fr o.dst v, s.h, s.pend, s.hs, ⟨o, s.fr, v, (p.ws.getD i (0, 0)).1, (p.ws.getD i (0, 0)).2⟩ :: s.rds⟩) ⟨hr.fr.put o.dst v, rfl, hr.pend, hr.hs, ?_⟩ rfl hg fun N sF h => ⟨N + 1, ?_⟩
          · intro r hrm
            rcases List.mem_cons.1 hrm with h | h
            · subst h; exact ⟨_, List.mem_cons_self .., rfl, rfl, rfl, rfl, fun x hx => (hO x hx).symm⟩
            · obtain ⟨r0, h1, h2⟩ := hr.rds r h
              exact ⟨r0, List.mem_cons_of_mem _ h1, h2⟩
          · unfold evalDraw; rw [hw, cond_true, hk]; simp only [hp]; exact h
      | alloc =>
        simp only [hk] at hg ⊢
        rw [allocOp_congr hO] at hg ⊢
        cases hp : allocOp P s.fr (p.base + i) o with
        | none => simp only [hp] at hg; exact (not_good _ hg).elim
        | some vb =>
          obtain ⟨v, b⟩ := vb
          simp only [hp] at hg ⊢
          refine fin (v := v) (s1 := ⟨putA s.fr o.dst v, s.h, (i, b) :: s.pend, s.hs, s.rds⟩) ⟨hr.fr.put o.dst v, hr.h, by simp only [hr.pend], hr.hs, hr.rds⟩ rfl hg fun N sF h => ⟨N + 1, ?_⟩
          unfold evalDraw; rw [hw, cond_true, hk]; simp only [hp]; exact h
      | eff =>
        simp only [hk] at hg ⊢
        obtain ⟨m, v, h', he, hrun⟩ := slowT_sound hc hg
        rw [hrun] at hg ⊢
        rw [V.of_v] at hg ⊢
        rw [evalOp_congr hO, ← hr.h, ← hr.pend] at he
        refine fin (v := v) (s1 := ⟨putA s.fr o.dst v, h', s.pend.filter fun x => !(p.pre.getD i 0).testBit x.1, s.hs ++ [s.h], s.rds⟩) ⟨hr.fr.put o.dst v, rfl, by simp only [hr.pend], by simp only [hr.hs, hr.h], hr.rds⟩ rfl hg fun N sF h => ⟨Nat.max m N + 1, ?_⟩
        unfold evalDraw; rw [hw, cond_true, hk]
        simp only [(mono P G H (Nat.le_max_left m N)).op he]
        exact (mono P G H (Nat.le_max_right m N)).draw h
    | false =>
      rw [hw] at hW
      simp only [hW] at hg ⊢
      cases hk : kindOf P o with
      | eff =>
        simp only [hk] at hg ⊢
        refine fin (v := .undef) (s1 := ⟨putA s.fr o.dst .undef, s.h, s.pend, s.hs ++ [s.h], s.rds⟩) ⟨hr.fr.put o.dst .undef, hr.h, hr.pend, by simp only [hr.hs, hr.h], hr.rds⟩ rfl hg fun N sF h => ⟨N + 1, ?_⟩
        unfold evalDraw; rw [hw, cond_false, hk]; exact h
      | _ =>
        simp only [hk] at hg ⊢
        refine fin (v := .undef) (s1 := ⟨putA s.fr o.dst .undef, s.h, s.pend, s.hs, s.rds⟩) ⟨hr.fr.put o.dst .undef, hr.h, hr.pend, hr.hs, hr.rds⟩ rfl hg fun N sF h => ⟨N + 1, ?_⟩
        unfold evalDraw; rw [hw, cond_false, hk]; exact h

theorem tail_congr {ops : List Oper} : ∀ (l : List Oper) (f f0 : T AVal) (h : Hp) (met : List Nat) (S : Nat → Prop) (r : T AVal × Hp), (∀ o ∈ l, ∀ t ∈ looksA ops o, S t) → Agr S f f0 → evalTail P ops l f0 h met = some r →
    ∃ f', evalTail P ops l f h met = some (f', r.2) ∧ Agr (fun t => S t ∨ ∃ o ∈ l, o.dst = some t) f' r.1 ∧ ∀ t, (∀ o ∈ l, o.dst ≠ some t) → gd f' t = gd f t
  | [], f, f0, h, met, S, r, hl, ha, he => by
    simp only [evalTail, Option.some.injEq] at he
    subst he
    exact ⟨f, by simp [evalTail], ha.mono (fun t ht => by rcases ht with h | ⟨o, ho, _⟩; exact h; cases ho), fun _ _ => rfl⟩
  | o :: l, f, f0, h, met, S, r, hl, ha, he => by
    have hlo : ∀ t ∈ looksA ops o, S t := hl o (List.mem_cons_self ..)
    have hW := ha.wanted (ops := ops) (o := o) hlo
    have hO := ha.opd (ops := ops) (o := o) hlo
    have hl' : ∀ o' ∈ l, ∀ t ∈ looksA ops o', (fun t => S t ∨ o.dst = some t) t := fun o' ho' t ht => .inl (hl o' (List.mem_cons_of_mem _ ho') t ht)
    have fin : ∀ {v : AVal} {h1 : Hp} {met1 : List Nat}, evalTail P ops l (putA f0 o.dst v) h1 met1 = some r → (∀ f', evalTail P ops l (putA f o.dst v) h1 met1 = some (f', r.2) → evalTail P ops (o :: l) f h met = some (f', r.2)) →
        ∃ f', evalTail P ops (o :: l) f h met = some (f', r.2) ∧ Agr (fun t => S t ∨ ∃ o' ∈ o :: l, o'.dst = some t) f' r.1 ∧ ∀ t, (∀ o' ∈ o :: l, o'.dst ≠ some t) → gd f' t = gd f t := by
      intro v h1 met1 he1 hstep
      obtain ⟨f', q1, q2, q3⟩ := tail_congr l (putA f o.dst v) (putA f0 o.dst v) h1 met1 _ r hl' (ha.put o.dst v) he1
      refine ⟨f', hstep f' q1, q2.mono fun t ht => ?_, fun t ht => ?_⟩
      · rcases ht with h | ⟨o', ho', hd⟩
        · exact .inl (.inl h)
        · rcases List.mem_cons.1 ho' with h | h
          · subst h; exact .inl (.inr hd)
          · exact .inr ⟨o', h, hd⟩
      · rw [q3 t fun o' ho' => ht o' (List.mem_cons_of_mem _ ho')]
        have hne := ht o (List.mem_cons_self ..)
        cases hd : o.dst with
        | none => rfl
        | some d => simp only [putA]; rw [gd_set, if_neg]; intro e; subst e; exact hne hd
    unfold evalTail at he
    cases hw : wantedA ops f o with
    | true =>
      rw [hW, hw, cond_true] at he
      cases hop : o.op with
      | store t a x =>
        simp only [hop] at he
        have ea : opdA f0 a = opdA f a := hO a (by rw [hop]; simp [Op.operands])
        have ex : opdA f0 x = opdA f x := hO x (by rw [hop]; simp [Op.operands])
        rw [ea, ex] at he
        split at he
        · rename_i b off v ha1 hx1
          cases hm : met.contains b with
          | true => rw [hm] at he; cases he
          | false =>
            rw [hm, cond_false] at he
            split at he
            · rename_i h1 hs
              refine fin he fun f' hf' => ?_
              unfold evalTail; rw [hw, cond_true]; simp only [hop, ha1, hx1, hm, cond_false, hs]; exact hf'
            · cases he
        · cases he
      | _ =>
        simp only [hop] at he
        rw [pureOp_congr hO] at he
        split at he
        · rename_i v hv
          refine fin he fun f' hf' => ?_
          unfold evalTail; rw [hw, cond_true]; simp only [hop, hv]; exact hf'
        · cases he
    | false =>
      rw [hW, hw, cond_false] at he
      refine fin he fun f' hf' => ?_
      unfold evalTail; rw [hw, cond_false]; exact hf'

theorem mem_slotsL : ∀ (l : List Nat) (m t : Nat), t ∈ l → t ∈ slotsL l m ∨ hasB m t = true
  | [], m, t, h => by cases h
  | a :: l, m, t, h => by
    unfold slotsL
    cases hm : hasB m a with
    | true =>
      simp only
      rcases List.mem_cons.1 h with h | h
      · subst h; exact .inr hm
      · exact mem_slotsL l m t h
    | false =>
      simp only
      rcases List.mem_cons.1 h with h | h
      · subst h; exact .inl (List.mem_cons_self ..)
      · rcases mem_slotsL l (addB m a) t h with h | h
        · exact .inl (List.mem_cons_of_mem _ h)
        · rw [hasB_add, Bool.or_eq_true, decide_eq_true_eq] at h
          rcases h with h | h
          · exact .inr h
          · subst h; exact .inl (List.mem_cons_self ..)
theorem mem_slotsR {ops : List Oper} {o : Oper} (ho : o ∈ ops) {t : Nat} (ht : t ∈ looksA ops o) : t ∈ slotsR ops := by
  unfold slotsR
  rcases mem_slotsL (ops.flatMap (looksA ops)) 0 t (List.mem_flatMap.2 ⟨o, ho, ht⟩) with h | h
  · exact h
  · rw [hasB_eq] at h; simp at h
theorem clear_spec {l : List Nat} (h : clear loc l = true) {t : Nat} (ht : t ∈ l) : hasB loc t = false ∧ t < 4096 := by
  unfold clear at h
  have := List.all_eq_true.1 h t ht
  simp only [Bool.and_eq_true, Bool.not_eq_true'] at this
  exact ⟨this.1, blt_true this.2⟩
theorem takeF_gd : ∀ (l : List Nat) (fr : FR) (t : Nat), t ∈ l → gd (takeF l fr) t = (fr.at t).v
  | [], fr, t, h => by cases h
  | a :: l, fr, t, h => by
    have e : takeF (a :: l) fr = (takeF l fr).set a ((xSlot 0 a).ev fr env0).v := rfl
    rw [e, gd_set]
    split
    · rename_i h; subst h; rfl
    · rename_i hne
      rcases List.mem_cons.1 h with h | h
      · exact absurd h.symm hne
      · exact takeF_gd l fr t h
theorem giveF_at : ∀ (l : List Nat) (f : T AVal) (fr : FR) (t : Nat), (∀ s ∈ l, s < 4096) → t < 4096 → (giveF l f fr).at t = if t ∈ l then V.of (gd f t) else fr.at t
  | [], f, fr, t, hl, ht => by simp [giveF]
  | a :: l, f, fr, t, hl, ht => by
    have e : giveF (a :: l) f fr = giveF l f ((spSlot a).put (V.of (gd f a)) fr) := rfl
    rw [e, giveF_at l f _ t (fun s hs => hl s (List.mem_cons_of_mem _ hs)) ht, FR.at_put (hl a (List.mem_cons_self ..)) ht]
    by_cases h1 : t ∈ l
    · rw [if_pos h1, if_pos (List.mem_cons_of_mem _ h1)]
    · rw [if_neg h1]
      by_cases h2 : a = t
      · subst h2; rw [if_pos rfl, if_pos (List.mem_cons_self ..)]
      · rw [if_neg h2, if_neg]
        intro h; rcases List.mem_cons.1 h with h | h
        · exact h2 h.symm
        · exact h1 h

theorem agree_congr {hs : List Hp} {r r0 : Rd} (h1 : r.o = r0.o) (h2 : r.v = r0.v) (h3 : r.lo = r0.lo) (h4 : r.hi = r0.hi) (h5 : ∀ x ∈ r.o.op.operands, opdA r.fr x = opdA r0.fr x) (h : agree P G hs r0 = true) : agree P G hs r = true := by
  obtain ⟨o, fr, v, lo, hi⟩ := r
  obtain ⟨o0, fr0, v0, lo0, hi0⟩ := r0
  simp only at h1 h2 h3 h4 h5
  subst h1; subst h2; subst h3; subst h4
  unfold agree at h ⊢
  rw [List.all_eq_true] at h ⊢
  intro x hx
  have := h x hx
  simp only at this ⊢
  rw [readOp_congr h5]
  exact this

theorem draw_code {id : Nat} {ops : Array Oper} {f : T AVal} {fr : FR} {h : Hp} {k : KS} {call : CallF} (hc : CallGood P G H call) (hrel : FrRel loc f fr) (ho : orderly P ops.toList = true) (hcl : (clear loc (slotsR ops.toList) && clear loc (dstsR ops.toList)) = true)
    (hg : Good (runD (slotsR ops.toList) (dstsR ops.toList) ops.toList (tailOf P ops.toList) (befores ops.toList) (windows P ops.toList) ⟨P, G, H, call⟩ fr h k)) :
    ∃ M f' fr' h', evalCode P G H M (.region id ops true) f h = some ⟨.normal, f', h'⟩ ∧ FrRel loc f' fr' ∧
      runD (slotsR ops.toList) (dstsR ops.toList) ops.toList (tailOf P ops.toList) (befores ops.toList) (windows P ops.toList) ⟨P, G, H, call⟩ fr h k = k fr' h' := by
  simp only [Bool.and_eq_true] at hcl
  obtain ⟨hcs, hcd⟩ := hcl
  generalize hl : ops.toList = l at *
  unfold runD at hg ⊢
  have hlk : ∀ o ∈ l, ∀ t ∈ looksA l o, (fun t => t ∈ slotsR l) t := fun o ho t ht => mem_slotsR ho ht
  have hr0 : DSR (fun t => t ∈ slotsR l) l ⟨f, ⟨h.t, h.next + l.length⟩, [], [], []⟩ ⟨takeF (slotsR l) fr, ⟨h.t, h.next + l.length⟩, [], [], []⟩ := by
    refine ⟨fun t ht => ?_, rfl, rfl, rfl, fun r hr => by cases hr⟩
    obtain ⟨q1, q2⟩ := clear_spec hcs ht
    show gd f t = gd (takeF (slotsR l) fr) t
    rw [takeF_gd _ _ _ ht, hrel t q1 q2, V.of_v]
  obtain ⟨N, sF, s0F, e1, e2, e3, e4⟩ := draw_congr (p := planOf P l h.next) hc (l.take (tailOf P l)) 0 _ _ _ _ (fun o ho => hlk o (List.mem_of_mem_take ho)) hr0 hg
  have e4' := e4
  simp only [planOf] at e4'
  rw [e4'] at hg ⊢
  cases hag : s0F.rds.all (agree P G (s0F.hs ++ [s0F.h])) with
  | false => simp only [hag] at hg; exact (not_good _ hg).elim
  | true =>
    simp only [hag] at hg ⊢
    cases ht : evalTail P l (l.drop (tailOf P l)) s0F.fr (publishAll h.next s0F.pend s0F.h) [] with
    | none => simp only [ht] at hg; exact (not_good _ hg).elim
    | some r =>
      obtain ⟨f0, h'⟩ := r
      simp only [ht] at hg ⊢
      obtain ⟨f', t1, t2, t3⟩ := tail_congr (P := P) (l.drop (tailOf P l)) sF.fr s0F.fr _ [] _ (f0, h') (fun o ho t ht => .inl (hlk o (List.mem_of_mem_drop ho) t ht)) e2.fr ht
      refine ⟨N + 1, f', giveF (dstsR l) f0 fr, h', ?_, ?_, rfl⟩
      · unfold evalCode
        simp only [hl]
        rw [ho, cond_true]
        have e1' : evalDraw P G H N l (List.take (planOf P l h.next).tail l) (planOf P l h.next) 0 ⟨f, ⟨h.t, h.next + l.length⟩, [], [], []⟩ = some sF := e1
        rw [e1']
        simp only
        have hag' : sF.rds.all (agree P G (sF.hs ++ [sF.h])) = true := by
          rw [List.all_eq_true]
          intro r hr
          obtain ⟨r0, m1, m2, m3, m4, m5, m6⟩ := e2.rds r hr
          rw [e2.hs, e2.h]
          exact agree_congr m2 m3 m4 m5 m6 (List.all_eq_true.1 hag r0 m1)
        rw [hag', cond_true]
        have t1' : evalTail P l (List.drop (planOf P l h.next).tail l) sF.fr (publishAll (planOf P l h.next).base sF.pend sF.h) [] = some (f', h') := by
          rw [e2.pend, e2.h]; exact t1
        rw [t1']
      · intro t q1 q2
        rw [giveF_at _ _ _ _ (fun s hs => (clear_spec hcd hs).2) q2]
        have hd : ∀ o ∈ l, o.dst = some t → t ∈ dstsR l := fun o ho hd => List.mem_filterMap.2 ⟨o, ho, hd⟩
        by_cases hm : t ∈ dstsR l
        · rw [if_pos hm]
          congr 1
          refine (t2 t ?_).symm
          obtain ⟨o, ho, hdo⟩ := List.mem_filterMap.1 hm
          rw [← List.take_append_drop (tailOf P l) l] at ho
          rcases List.mem_append.1 ho with ho | ho
          · exact .inl (.inr ⟨o, ho, hdo⟩)
          · exact .inr ⟨o, ho, hdo⟩
        · rw [if_neg hm]
          have n1 : ∀ o ∈ l, o.dst ≠ some t := fun o ho hd' => hm (hd o ho hd')
          rw [t3 t fun o ho => n1 o (List.mem_of_mem_drop ho), e3 t fun o ho => n1 o (List.mem_of_mem_take ho)]
          exact hrel t q1 q2
end
end
end Go.Ae
