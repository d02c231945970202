/- A region whose order stands, whole. No condition. -/
import Derived.Test.YtmkeapfgondiiaaGreatDoorEvH
import Derived.Test.YtmkeapfgondiiaaGreatDoorEvE
import Derived.Test.YtmkeapfgondiiaaGreatDoorEvF
set_option linter.unusedVariables false
set_option linter.unusedSimpArgs false
namespace Go.Ae
open Go
noncomputable section

section
variable {P : Program} {G : Nat → Option AVal} {H : Hook} {loc : Nat}

theorem ops_cons {all l : List Oper} {o : Oper} {f : T AVal} {h h1 : Hp} {v : AVal} {m N : Nat} {r : T AVal × Hp} (hw : wantedA all f o = true) (he : evalOp P G H m f h o = some (v, h1)) (hr : evalOps P G H N all l (putA f o.dst v) h1 = some r) :
    ∃ M, evalOps P G H M all (o :: l) f h = some r := by
  refine ⟨Nat.max m N + 1, ?_⟩
  unfold evalOps
  rw [hw, cond_true, (mono P G H (Nat.le_max_left m N)).op he]
  exact (mono P G H (Nat.le_max_right m N)).ops hr
theorem ops_skip {all l : List Oper} {o : Oper} {f : T AVal} {h : Hp} {N : Nat} {r : T AVal × Hp} (hw : wantedA all f o = false) (hr : evalOps P G H N all l (putA f o.dst .undef) h = some r) : ∃ M, evalOps P G H M all (o :: l) f h = some r := by
  refine ⟨N + 1, ?_⟩
  unfold evalOps
  rw [hw, cond_false]; exact hr

/-- What a region's closure is to do. -/
def OOk (P : Program) (G : Nat → Option AVal) (H : Hook) (loc n : Nat) (cs : CS) (all : List Oper) (fin : FinT) (l : List Oper) (r : OF n) : Prop :=
  ∀ call, CallGood P G H call → ∀ f fr L h k, Inv loc n cs f fr L → Good (r.run ⟨P, G, H, call⟩ fr L h k) →
    ∃ N f' h' n' cs' fr' L', evalOps P G H N all l f h = some (f', h') ∧ Inv loc n' cs' f' fr' L' ∧ r.run ⟨P, G, H, call⟩ fr L h k = (fin n' cs').run ⟨P, G, H, call⟩ fr' L' h' k
/-- Of one operation and what is behind it: from a memory and frames on. -/
def After (P : Program) (G : Nat → Option AVal) (H : Hook) (loc : Nat) (all : List Oper) (fin : FinT) (call : CallF) (l : List Oper) (f : T AVal) (h : Hp) (k : KF) (r : Out) : Prop :=
  ∃ N f' h' n' cs' fr' L', evalOps P G H N all l f h = some (f', h') ∧ Inv loc n' cs' f' fr' L' ∧ r = (fin n' cs').run ⟨P, G, H, call⟩ fr' L' h' k

variable {n : Nat} {cs : CS} {all l : List Oper} {o : Oper} {fin : FinT} {ih : FinT}
theorem After.cons {call : CallF} {f : T AVal} {h h1 : Hp} {v : AVal} {m : Nat} {k : KF} {r : Out} (hw : wantedA all f o = true) (he : evalOp P G H m f h o = some (v, h1)) (ha : After P G H loc all fin call l (putA f o.dst v) h1 k r) :
    After P G H loc all fin call (o :: l) f h k r := by
  obtain ⟨N, f', h', n', cs', fr', L', h1, h2, h3⟩ := ha
  obtain ⟨M, hM⟩ := ops_cons hw he h1
  exact ⟨M, f', h', n', cs', fr', L', hM, h2, h3⟩
theorem After.skip {call : CallF} {f : T AVal} {h : Hp} {k : KF} {r : Out} (hw : wantedA all f o = false) (ha : After P G H loc all fin call l (putA f o.dst .undef) h k r) : After P G H loc all fin call (o :: l) f h k r := by
  obtain ⟨N, f', h', n', cs', fr', L', h1, h2, h3⟩ := ha
  obtain ⟨M, hM⟩ := ops_skip hw h1
  exact ⟨M, f', h', n', cs', fr', L', hM, h2, h3⟩

/-- An operation under a guard, or under none: the closure's two ways. -/
theorem step_guarded {g : Option Gd} (hW : Wants all o g) {call : CallF} (hc : CallGood P G H call) {f : T AVal} {fr : FR} {L : EnvT n} {h : Hp} {k : KF} (inv : Inv loc n cs f fr L)
    (A : JF n → OF n) (B : XF n → Bool → JF n → OF n) (w : Nat) {bad : OF n} (hbad : bad = oBad w)
    (K1 : V → Hp → Out) (K2 : Out) (hA : ∀ j : JF n, (A j).run ⟨P, G, H, call⟩ fr L h k = j.run ⟨P, G, H, call⟩ fr L h K1)
    (hB : ∀ (x : XF n) (wt : Bool) (j : JF n), (B x wt j).run ⟨P, G, H, call⟩ fr L h k = gate (x.ev fr L) wt (j.run ⟨P, G, H, call⟩ fr L h K1) K2)
    {j : JF n} (hj : JOk P G H loc n cs (gsOf g) o j) {r : OF n}
    (hr : r = match g with | none => A j | some (t, wt) => res loc n cs [] (.tmp t) bad fun x => B x wt j)
    (hg : Good (r.run ⟨P, G, H, call⟩ fr L h k))
    (h1 : ∀ m v h', wantedA all f o = true → (∀ u, g = some u → holds f u) → evalOp P G H m f h o = some (v, h') → Good (K1 (V.of v) h') → After P G H loc all fin call l (putA f o.dst v) h' k (K1 (V.of v) h'))
    (h2 : wantedA all f o = false → (∀ u, g = some u → ¬ holds f u) → (∃ u, g = some u) → Good K2 → After P G H loc all fin call l (putA f o.dst .undef) h k K2) :
    After P G H loc all fin call (o :: l) f h k (r.run ⟨P, G, H, call⟩ fr L h k) := by
  subst hr
  cases g with
  | none =>
    simp only at hg ⊢
    rw [hA] at hg ⊢
    obtain ⟨m, v, h', he, hrun⟩ := hj call hc f fr L h K1 inv (fun u hu => by cases hu) hg
    rw [hrun] at hg ⊢
    exact (h1 m v h' (hW f) (fun u hu => by cases hu) he hg).cons (hW f) he
  | some u =>
    obtain ⟨t, wt⟩ := u
    simp only at hg ⊢
    rcases res_cases (loc := loc) (cs := cs) (gs := []) (.tmp t) bad (fun x => B x wt j) with hb | ⟨x, hx, hb⟩
    · rw [hb, hbad] at hg; exact (not_good _ hg).elim
    · rw [hb] at hg ⊢
      rw [hB] at hg ⊢
      obtain ⟨a, ha, hxe⟩ := hx f fr L inv (fun u hu => by cases hu)
      rw [opdA_tmp] at ha
      simp only [Option.some.injEq] at ha
      rw [hxe] at hg ⊢
      by_cases hh : a = .bool wt
      · rw [gate_pos hh] at hg ⊢
        have hhold : holds f (t, wt) := ha.trans hh
        have hw : wantedA all f o = true := (hW f).2 hhold
        obtain ⟨m, v, h', he, hrun⟩ := hj call hc f fr L h K1 inv (fun u hu => by rcases List.mem_singleton.1 hu with rfl; exact hhold) hg
        rw [hrun] at hg ⊢
        exact (h1 m v h' hw (fun u hu => by cases hu; exact hhold) he hg).cons hw he
      · rw [gate_neg hh] at hg ⊢
        have hnh : ¬ holds f (t, wt) := fun h => hh (ha.symm.trans h)
        have hw : wantedA all f o = false := by
          cases hq : wantedA all f o with
          | false => rfl
          | true => exact absurd ((hW f).1 hq) hnh
        exact (h2 hw (fun u hu => by cases hu; exact hnh) ⟨_, rfl⟩ hg).skip hw

theorem or_false' {a b : Bool} (h : or a b = false) : a = false ∧ b = false := by cases a <;> cases b <;> first | exact ⟨rfl, rfl⟩ | cases h
theorem compL_ok (P : Program) (G : Nat → Option AVal) (H : Hook) (loc : Nat) (all : List Oper) (fin : FinT) : ∀ (l : List Oper) (n : Nat) (cs : CS), OOk P G H loc n cs all fin l (compL loc P all fin l n cs)
  | [], n, cs => fun call hc f fr L h k inv hg => ⟨1, f, h, n, cs, fr, L, by simp [evalOps], inv, rfl⟩
  | o :: l, n, cs => by
    intro call hc f fr L h k inv hg
    have ih := compL_ok P G H loc all fin l
    have e : compL loc P all fin (o :: l) n cs = guardK all o (oBad 95) fun g => match o.dst with
      | none => stepE loc n cs g (compO o.op n loc P cs (gsOf g) o).j (compL loc P all fin l)
      | some d => stepD loc n cs g (compO o.op n loc P cs (gsOf g) o) d (compL loc P all fin l) := rfl
    rw [e] at hg ⊢
    rcases guardK_cases (all := all) (o := o) (bad := (oBad 95 : OF n)) (k := fun g => match o.dst with
      | none => stepE loc n cs g (compO o.op n loc P cs (gsOf g) o).j (compL loc P all fin l)
      | some d => stepD loc n cs g (compO o.op n loc P cs (gsOf g) o) d (compL loc P all fin l)) with hb | ⟨g, hW, hb⟩
    · rw [hb] at hg; exact (not_good _ hg).elim
    · rw [hb] at hg ⊢
      have hj : JOk P G H loc n cs (gsOf g) o (compO o.op n loc P cs (gsOf g) o).j := compO_ok
      cases hdst : o.dst with
      | none =>
        simp only [hdst] at hg ⊢
        refine step_guarded hW hc inv (fun j => oEff j (compL loc P all fin l n cs)) (fun x w j => oGEff x w j (compL loc P all fin l n cs)) 90 rfl
          (fun _ h => (compL loc P all fin l n cs).run ⟨P, G, H, call⟩ fr L h k) ((compL loc P all fin l n cs).run ⟨P, G, H, call⟩ fr L h k) (fun j => rfl) (fun x w j => rfl) hj (by unfold stepE; cases g <;> rfl) hg ?_ ?_
        · intro m v h' _ _ _ hg'
          rw [hdst]
          exact ih n cs call hc f fr L h' k inv hg'
        · intro _ _ _ hg'
          rw [hdst]
          exact ih n cs call hc f fr L h k inv hg'
      | some d =>
        simp only [hdst] at hg ⊢
        unfold stepD at hg ⊢
        cases hcl : or (hasB cs.gm d) (clash g d) with
        | true => simp only [hcl] at hg; exact (not_good _ hg).elim
        | false =>
          simp only [hcl] at hg ⊢
          obtain ⟨hgm, hcl⟩ := or_false' hcl
          have hne : ∀ u, g = some u → u.1 ≠ d := fun u hu => by subst hu; exact nat_beq_false hcl
          cases hld : hasB loc d with
          | false =>
            simp only [hld] at hg ⊢
            cases hlt : Nat.blt d 4096 with
            | false => simp only [hlt] at hg; exact (not_good _ hg).elim
            | true =>
              simp only [hlt] at hg ⊢
              refine step_guarded hW hc inv (fun j => oSet j (spSlot d) (compL loc P all fin l n ⟨cs.env, addB cs.dead d, cs.gm⟩)) (fun x w j => oGSet x w j (spSlot d) (compL loc P all fin l n ⟨cs.env, addB cs.dead d, cs.gm⟩)) 92 rfl
                (fun v h => (compL loc P all fin l n ⟨cs.env, addB cs.dead d, cs.gm⟩).run ⟨P, G, H, call⟩ ((spSlot d).put v fr) L h k)
                ((compL loc P all fin l n ⟨cs.env, addB cs.dead d, cs.gm⟩).run ⟨P, G, H, call⟩ ((spSlot d).put .undef fr) L h k) (fun j => rfl) (fun x w j => rfl) hj (by unfold stepS; cases g <;> rfl) hg ?_ ?_
              · intro m v h' _ _ _ hg'
                rw [hdst]
                exact ih n _ call hc _ _ L h' k (inv.setFr hld (blt_true hlt) hgm v) hg'
              · intro _ _ _ hg'
                rw [hdst]
                exact ih n _ call hc _ _ L h k (inv.setFr hld (blt_true hlt) hgm .undef) hg'
          | true =>
            simp only [hld] at hg ⊢
            have push : Good ((stepP loc n cs g (compO o.op n loc P cs (gsOf g) o).j d (compL loc P all fin l)).run ⟨P, G, H, call⟩ fr L h k) →
                After P G H loc all fin call (o :: l) f h k ((stepP loc n cs g (compO o.op n loc P cs (gsOf g) o).j d (compL loc P all fin l)).run ⟨P, G, H, call⟩ fr L h k) := by
              intro hg
              -- the knowledge behind the push
              have invP : ∀ v, (∀ u, g = some u → ¬ holds f u → v = .undef) → Inv loc (n + 1) ⟨cs.env.set d ⟨none, g, .l n⟩, cs.dead, mask cs.gm g⟩ (f.set d v) fr (PairT.mk (α := EnvT n) (V.of v) L) := by
                intro v hv
                refine (inv.shift (V.of v)).setLoc hld hgm (fun m hm => by cases hm; exact Nat.lt_succ_self n) (fun q hq => by cases hq) (fun _ _ => ?_) (fun u _ hu hn => hv u hu hn) (fun u hu => ?_) (fun t ht => hasB_mask.2 (.inl ht)) (fun u hu => ?_)
                · show ((envL (n + 1) (PairT.mk (α := EnvT n) (V.of v) L))[n + 1 - (n + 1)]?).getD V.undef = V.of v
                  rw [Nat.sub_self]; rfl
                · rcases hu with hu | hu
                  · cases hu
                  · exact hne u hu
                · rcases hu with hu | hu
                  · cases hu
                  · exact hasB_mask.2 (.inr ⟨u, hu, rfl⟩)
              refine step_guarded hW hc inv (fun j => oPush j (compL loc P all fin l (Nat.succ n) ⟨cs.env.set d ⟨none, g, .l n⟩, cs.dead, mask cs.gm g⟩)) (fun x w j => oGPush x w j (compL loc P all fin l (Nat.succ n) ⟨cs.env.set d ⟨none, g, .l n⟩, cs.dead, mask cs.gm g⟩)) 91 rfl
                (fun v h => (compL loc P all fin l (Nat.succ n) ⟨cs.env.set d ⟨none, g, .l n⟩, cs.dead, mask cs.gm g⟩).run ⟨P, G, H, call⟩ fr (PairT.mk v L) h k)
                ((compL loc P all fin l (Nat.succ n) ⟨cs.env.set d ⟨none, g, .l n⟩, cs.dead, mask cs.gm g⟩).run ⟨P, G, H, call⟩ fr (PairT.mk .undef L) h k) (fun j => rfl) (fun x w j => rfl) hj (by unfold stepP; cases g <;> rfl) hg ?_ ?_
              · intro m v h' _ hh _ hg'
                rw [hdst]
                exact ih _ _ call hc _ _ _ h' k (invP v fun u hu hn => absurd (hh u hu) hn) hg'
              · intro _ hh _ hg'
                rw [hdst]
                exact ih _ _ call hc _ _ _ h k (invP .undef fun u hu hn => rfl) hg'
            cases hmv : (compO o.op n loc P cs (gsOf g) o).mv with
            | none => simp only [hmv] at hg ⊢; exact push hg
            | some x =>
              simp only [hmv] at hg ⊢
              cases hal : alias loc cs g x with
              | none => simp only [hal] at hg ⊢; exact push hg
              | some e' =>
                simp only [hal] at hg ⊢
                have hop := compO_mv hmv
                obtain ⟨⟨v0, hv0⟩, a1, a1', a2, a3⟩ := alias_ok hal inv
                have invA : ∀ v, ((∀ u, g = some u → holds f u) → opdA f x = some v) → (∀ u, g = some u → ¬ holds f u → v = .undef) → Inv loc n ⟨cs.env.set d e', cs.dead, mask (mask cs.gm e'.cond) e'.un⟩ (f.set d v) fr L := by
                  intro v h1 h2
                  obtain ⟨b1, b2⟩ := a3 v h1 h2
                  refine inv.setLoc hld hgm a1 a1' b1 b2 (fun u hu => ?_) (fun t ht => hasB_mask.2 (.inl (hasB_mask.2 (.inl ht)))) (fun u hu => ?_)
                  · rcases a2 u hu with hu' | hu'
                    · exact hne u hu'
                    · intro e; rw [e, hgm] at hu'; cases hu'
                  · rcases hu with hu | hu
                    · exact hasB_mask.2 (.inl (hasB_mask.2 (.inr ⟨u, hu, rfl⟩)))
                    · exact hasB_mask.2 (.inr ⟨u, hu, rfl⟩)
                cases hw : wantedA all f o with
                | true =>
                  have hh : ∀ u, g = some u → holds f u := fun u hu => by subst hu; exact (hW f).1 hw
                  have he : evalOp P G H 1 f h o = some (v0, h) := by
                    refine evalOp_pure ?_ ?_
                    · unfold kindOf; rcases hop with ho | ho <;> rw [ho]
                    · unfold pureOp; rcases hop with ho | ho <;> (rw [ho]; exact hv0)
                  refine After.cons (v := v0) hw he ?_
                  rw [hdst]
                  exact ih n _ call hc _ fr L h k (invA v0 (fun _ => hv0) fun u hu hn => absurd (hh u hu) hn) hg
                | false =>
                  have hh : ∃ u, g = some u ∧ ¬ holds f u := by
                    cases g with
                    | none => rw [hW f] at hw; cases hw
                    | some u => exact ⟨u, rfl, fun h => by rw [(hW f).2 h] at hw; cases hw⟩
                  refine After.skip hw ?_
                  rw [hdst]
                  exact ih n _ call hc _ fr L h k (invA .undef (fun h => absurd (h hh.choose hh.choose_spec.1) hh.choose_spec.2) fun _ _ _ => rfl) hg
end
end
end Go.Ae
/- Regions whose order the run draws: those without effects, and the others. No condition. -/
set_option linter.unusedVariables false
set_option linter.unusedSimpArgs false
namespace Go.Ae
open Go
noncomputable section

def quietH (H : Hook) : Hook := ⟨H.call, fun _ _ _ => none⟩
def FrRel (loc : Nat) (f : T AVal) (fr : FR) : Prop := ∀ t, hasB loc t = false → t < 4096 → fr.at t = V.of (gd f t)
theorem Inv.start {loc : Nat} {f : T AVal} {fr : FR} (h : FrRel loc f fr) : Inv loc 0 CS.init f fr env0 where
  nl := h
  lk := fun t e h => by simp [CS.init] at h
  wf := fun t e m h => by simp [CS.init] at h
  nf := fun t e m h => by simp [CS.init] at h
  ent := fun t e h => by simp [CS.init] at h
  un := fun t e g h => by simp [CS.init] at h
  gm := fun t e g h => by simp [CS.init] at h

section
variable {P : Program} {G : Nat → Option AVal} {H : Hook} {loc : Nat}

theorem callGood_bad (w : Nat) : CallGood P G H (fun _ _ _ _ _ => .bad w) := fun f args h k hg => (not_good w hg).elim

/- quiet regions -/
theorem quiet_op {N : Nat} {f : T AVal} {h h' : Hp} {o : Oper} {v : AVal} (hq : quietO P o = true) (he : evalOp P G (quietH H) N f h o = some (v, h')) :
    h' = h ∧ ((kindOf P o = .pure ∧ pureOp P f o = some v) ∨ (kindOf P o = .read ∧ readOp P G f h o = some v)) := by
  cases N with
  | zero => simp [evalOp] at he
  | succ N =>
    unfold evalOp at he
    unfold quietO at hq
    cases hk : kindOf P o with
    | pure =>
      rw [hk] at he
      simp only at he
      cases hp : pureOp P f o with
      | some w => rw [hp] at he; cases he; exact ⟨rfl, .inl ⟨rfl, rfl⟩⟩
      | none =>
        rw [hp] at he
        simp only [quietH] at he
        split at he
        · split at he
          · cases he
          · cases he
        · cases he
    | read =>
      rw [hk] at he
      simp only at he
      cases hp : readOp P G f h o with
      | some w => rw [hp] at he; cases he; exact ⟨rfl, .inr ⟨rfl, rfl⟩⟩
      | none => rw [hp] at he; cases he
    | alloc => rw [hk] at hq; cases hq
    | eff => rw [hk] at hq; cases hq

theorem quiet_draw {all : List Oper} {p : Plan} : ∀ (l : List Oper) (N i : Nat) (s : DS) (f' : T AVal) (h' : Hp), l.all (quietO P) = true → evalOps P G (quietH H) N all l s.fr s.h = some (f', h') →
    h' = s.h ∧ ∃ rds, evalDraw P G H (l.length + 1) all l p i s = some ⟨f', s.h, s.pend, s.hs, rds⟩ ∧ ∀ r ∈ rds, r ∈ s.rds ∨ readOp P G r.fr s.h r.o = some r.v
  | [], N, i, s, f', h', hq, he => by
    cases N with
    | zero => simp [evalOps] at he
    | succ N =>
      simp only [evalOps, Option.some.injEq, Prod.mk.injEq] at he
      obtain ⟨rfl, rfl⟩ := he
      exact ⟨rfl, s.rds, by simp [evalDraw], fun r hr => .inl hr⟩
  | o :: l, N, i, s, f', h', hq, he => by
    simp only [List.all_cons, Bool.and_eq_true] at hq
    cases N with
    | zero => simp [evalOps] at he
    | succ N =>
      unfold evalOps at he
      unfold evalDraw
      cases hw : wantedA all s.fr o with
      | true =>
        rw [hw, cond_true] at he
        simp only [List.length_cons]
        rw [cond_true]
        cases hop : evalOp P G (quietH H) N s.fr s.h o with
        | none => rw [hop] at he; cases he
        | some vh =>
          obtain ⟨v, h1⟩ := vh
          rw [hop] at he
          simp only at he
          obtain ⟨rfl, hk | hk⟩ := quiet_op hq.1 hop
          · obtain ⟨e1, rds, e2, e3⟩ := quiet_draw l N (i + 1) ⟨putA s.fr o.dst v, s.h, s.pend, s.hs, s.rds⟩ f' h' hq.2 he
            exact ⟨e1, rds, by rw [hk.1]; simp only [hk.2]; exact e2, e3⟩
          · obtain ⟨e1, rds, e2, e3⟩ := quiet_draw l N (i + 1) ⟨putA s.fr o.dst v, s.h, s.pend, s.hs, ⟨o, s.fr, v, (p.ws.getD i (0, 0)).1, (p.ws.getD i (0, 0)).2⟩ :: s.rds⟩ f' h' hq.2 he
            refine ⟨e1, rds, by rw [hk.1]; simp only [hk.2]; exact e2, fun r hr => ?_⟩
            rcases e3 r hr with h | h
            · rcases List.mem_cons.1 h with h | h
              · subst h; exact .inr hk.2
              · exact .inl h
            · exact .inr h
      | false =>
        rw [hw, cond_false] at he
        simp only [List.length_cons]
        rw [cond_false]
        obtain ⟨e1, rds, e2, e3⟩ := quiet_draw l N (i + 1) ⟨putA s.fr o.dst .undef, s.h, s.pend, s.hs, s.rds⟩ f' h' hq.2 he
        refine ⟨e1, rds, ?_, e3⟩
        have hne : kindOf P o ≠ .eff := by
          intro hk; have := hq.1; unfold quietO at this; rw [hk] at this; cases this
        split
        · rename_i hk; exact absurd hk hne
        · exact e2

theorem tail_quiet {ops : List Oper} (hq : ops.all (quietO P) = true) : tailOf P ops = ops.length := by
  have hch : chained P ops ops.length = true := by
    unfold chained
    simp only [List.all_eq_true]
    intro j hj
    have : (effMask P ops).testBit j = false := by
      cases hb : (effMask P ops).testBit j with
      | false => rfl
      | true =>
        obtain ⟨o, ho, he⟩ := testBit_effMask.1 hb
        have := List.all_eq_true.1 hq o (List.mem_of_getElem? ho)
        unfold quietO at this
        unfold isEff at he
        cases hk : kindOf P o <;> rw [hk] at this he <;> simp at this he
    rw [this]; rfl
  unfold tailOf
  simp only [hch, if_true]
theorem quiet_code {id : Nat} {ops : Array Oper} {f f' : T AVal} {h h' : Hp} {N : Nat} (hq : ops.toList.all (quietO P) = true) (ho : orderly P ops.toList = true)
    (he : evalOps P G (quietH H) N ops.toList ops.toList f (h.bump ops.toList.length) = some (f', h')) : ∃ M, evalCode P G H M (.region id ops true) f h = some ⟨.normal, f', h'⟩ := by
  obtain ⟨rfl, rds, e2, e3⟩ := quiet_draw (P := P) (G := G) (H := H) (all := ops.toList) (p := planOf P ops.toList h.next) ops.toList N 0 ⟨f, h.bump ops.toList.length, [], [], []⟩ f' h' hq he
  refine ⟨ops.toList.length + 1 + 1, ?_⟩
  unfold evalCode
  simp only
  rw [ho, cond_true]
  have ht : (planOf P ops.toList h.next).tail = ops.toList.length := tail_quiet hq
  rw [ht, List.take_length, List.drop_length]
  have e2' : evalDraw P G H (ops.toList.length + 1) ops.toList ops.toList (planOf P ops.toList h.next) 0 ⟨f, ⟨h.t, h.next + ops.toList.length⟩, [], [], []⟩ = some ⟨f', h.bump ops.toList.length, [], [], rds⟩ := e2
  rw [e2']
  simp only
  have hag : rds.all (agree P G ([] ++ [h.bump ops.toList.length])) = true := by
    rw [List.all_eq_true]
    intro r hr
    rcases e3 r hr with h1 | h1
    · cases h1
    · unfold agree
      simp only [List.nil_append, List.zipIdx_cons, List.zipIdx_nil, List.all_cons, List.all_nil, Bool.and_true]
      have h1' : readOp P G r.fr (h.bump ops.toList.length) r.o = some r.v := h1
      simp only [h1', beqV_refl _ _ (Nat.lt_succ_self _), Bool.or_true]
  rw [hag, cond_true]
  simp [evalTail, publishAll]

/- the others -/
def Agr (S : Nat → Prop) (f f0 : T AVal) : Prop := ∀ t, S t → gd f t = gd f0 t
theorem Agr.put {S : Nat → Prop} {f f0 : T AVal} (h : Agr S f f0) (dst : Option Tmp) (v : AVal) : Agr (fun t => S t ∨ dst = some t) (putA f dst v) (putA f0 dst v) := by
  intro t ht
  cases dst with
  | none => rcases ht with ht | ht; exact h t ht; cases ht
  | some d =>
    simp only [putA]
    rw [gd_set, gd_set]
    split
    · rfl
    · rename_i hne
      rcases ht with ht | ht
      · exact h t ht
      · cases ht; exact absurd rfl hne
theorem Agr.mono {S S' : Nat → Prop} {f f0 : T AVal} (h : Agr S f f0) (hs : ∀ t, S' t → S t) : Agr S' f f0 := fun t ht => h t (hs t ht)
theorem Agr.opd {S : Nat → Prop} {f f0 : T AVal} (h : Agr S f f0) {ops : List Oper} {o : Oper} (hl : ∀ t ∈ looksA ops o, S t) : ∀ x ∈ o.op.operands, opdA f0 x = opdA f x := by
  intro x hx
  cases x with
  | tmp t =>
    rw [opdA_tmp, opdA_tmp, h t (hl t ?_)]
    unfold looksA
    refine List.mem_append_left _ (List.mem_filterMap.2 ⟨.tmp t, by simpa using hx, rfl⟩)
  | _ => rfl
theorem Agr.wanted {S : Nat → Prop} {f f0 : T AVal} (h : Agr S f f0) {ops : List Oper} {o : Oper} (hl : ∀ t ∈ looksA ops o, S t) : wantedA ops f0 o = wantedA ops f o := by
  unfold wantedA
  cases hg : o.guard with
  | none => rfl
  | some jw =>
    obtain ⟨j, w⟩ := jw
    simp only
    congr 1
    unfold yieldA
    cases hd : (ops[j]?).bind (·.dst) with
    | none => rfl
    | some d =>
      have hS : S d := hl d (by
        unfold looksA
        refine List.mem_append_right _ ?_
        rw [hg]; simp [hd])
      have e := h d hS
      simp only
      unfold gd at e
      cases h1 : f.get d with
      | none =>
        rw [h1] at e
        cases h2 : f0.get d with
        | none => rfl
        | some b => rw [h2] at e; simp only [Option.getD_none, Option.getD_some] at e; subst e; rfl
      | some a =>
        rw [h1] at e
        cases h2 : f0.get d with
        | none => rw [h2] at e; simp only [Option.getD_none, Option.getD_some] at e; subst e; rfl
        | some b => rw [h2] at e; simp only [Option.getD_some] at e; subst e; rfl

structure DSR (S : Nat → Prop) (ops : List Oper) (s s0 : DS) : Prop where
  fr : Agr S s.fr s0.fr
  h : s.h = s0.h
  pend : s.pend = s0.pend
  hs : s.hs = s0.hs
  rds : ∀ r ∈ s.rds, ∃ r0 ∈ s0.rds, r.o = r0.o ∧ r.v = r0.v ∧ r.lo = r0.lo ∧ r.hi = r0.hi ∧ ∀ x ∈ r.o.op.operands, opdA r.fr x = opdA r0.fr x

theorem draw_congr {ops : List Oper} {p : Plan} {call : CallF} (hc : CallGood P G H call) : ∀ (l : List Oper) (i : Nat) (s s0 : DS) (S : Nat → Prop) (k : DS → Out), (∀ o ∈ l, ∀ t ∈ looksA ops o, S t) → DSR S ops s s0 →
    Good (drawK ops p.base p.pre p.ws ⟨P, G, H, call⟩ l i s0 k) →
    ∃ N sF s0F, evalDraw P G H N ops l p i s = some sF ∧ DSR (fun t => S t ∨ ∃ o ∈ l, o.dst = some t) ops sF s0F ∧ (∀ t, (∀ o ∈ l, o.dst ≠ some t) → gd sF.fr t = gd s.fr t) ∧ drawK ops p.base p.pre p.ws ⟨P, G, H, call⟩ l i s0 k = k s0F
  | [], i, s, s0, S, k, hl, hr, hg => ⟨1, s, s0, by simp [evalDraw], ⟨hr.fr.mono (fun t ht => by rcases ht with h | ⟨o, ho, _⟩; exact h; cases ho), hr.h, hr.pend, hr.hs, hr.rds⟩, fun _ _ => rfl, rfl⟩
  | o :: l, i, s, s0, S, k, hl, hr, hg => by
    have hlo : ∀ t ∈ looksA ops o, S t := hl o (List.mem_cons_self ..)
    have hW := hr.fr.wanted (ops := ops) (o := o) hlo
    have hO := hr.fr.opd (ops := ops) (o := o) hlo
    have hl' : ∀ o' ∈ l, ∀ t ∈ looksA ops o', (fun t => S t ∨ o.dst = some t) t := fun o' ho' t ht => .inl (hl o' (List.mem_cons_of_mem _ ho') t ht)
    -- what stands behind one step
    have fin : ∀ {v : AVal} {s1 s01 : DS}, DSR (fun t => S t ∨ o.dst = some t) ops s1 s01 → s1.fr = putA s.fr o.dst v → Good (drawK ops p.base p.pre p.ws ⟨P, G, H, call⟩ l (Nat.succ i) s01 k) → (∀ N sF, evalDraw P G H N ops l p (i + 1) s1 = some sF → ∃ M, evalDraw P G H M ops (o :: l) p i s = some sF) →
        ∃ N sF s0F, evalDraw P G H N ops (o :: l) p i s = some sF ∧ DSR (fun t => S t ∨ ∃ o' ∈ o :: l, o'.dst = some t) ops sF s0F ∧ (∀ t, (∀ o' ∈ o :: l, o'.dst ≠ some t) → gd sF.fr t = gd s.fr t) ∧ drawK ops p.base p.pre p.ws ⟨P, G, H, call⟩ l (Nat.succ i) s01 k = k s0F := by
      intro v s1 s01 hr1 hf1 hg1 hstep
      obtain ⟨N, sF, s0F, h1, h2, h3, h4⟩ := draw_congr hc l (i + 1) s1 s01 _ k hl' hr1 hg1
      obtain ⟨M, hM⟩ := hstep N sF h1
      refine ⟨M, sF, s0F, hM, ⟨h2.fr.mono fun t ht => ?_, h2.h, h2.pend, h2.hs, h2.rds⟩, fun t ht => ?_, h4⟩
      · rcases ht with h | ⟨o', ho', hd⟩
        · exact .inl (.inl h)
        · rcases List.mem_cons.1 ho' with h | h
          · subst h; exact .inl (.inr hd)
          · exact .inr ⟨o', h, hd⟩
      · rw [h3 t fun o' ho' => ht o' (List.mem_cons_of_mem _ ho'), hf1]
        have hne := ht o (List.mem_cons_self ..)
        cases hd : o.dst with
        | none => rfl
        | some d => simp only [putA]; rw [gd_set, if_neg]; intro e; subst e; exact hne hd
    have e : drawK ops p.base p.pre p.ws ⟨P, G, H, call⟩ (o :: l) i s0 k = (match wantedA ops s0.fr o with
      | true => match kindOf P o with
        | .pure => match pureOp P s0.fr o with
          | some v => drawK ops p.base p.pre p.ws ⟨P, G, H, call⟩ l (Nat.succ i) ⟨putA s0.fr o.dst v, s0.h, s0.pend, s0.hs, s0.rds⟩ k
          | none => .bad 60
        | .read => match readOp P G s0.fr s0.h o with
          | some v => drawK ops p.base p.pre p.ws ⟨P, G, H, call⟩ l (Nat.succ i) ⟨putA s0.fr o.dst v, s0.h, s0.pend, s0.hs, ⟨o, s0.fr, v, (p.ws.getD i (0, 0)).1, (p.ws.getD i (0, 0)).2⟩ :: s0.rds⟩ k
          | none => .bad 61
        | .alloc => match allocOp P s0.fr (p.base + i) o with
          | some (v, b) => drawK ops p.base p.pre p.ws ⟨P, G, H, call⟩ l (Nat.succ i) ⟨putA s0.fr o.dst v, s0.h, (i, b) :: s0.pend, s0.hs, s0.rds⟩ k
          | none => .bad 62
        | .eff => slowT o s0.fr ⟨P, G, H, call⟩ (publish p.base (p.pre.getD i 0) s0.pend s0.h) (fun v h' => drawK ops p.base p.pre p.ws ⟨P, G, H, call⟩ l (Nat.succ i) ⟨putA s0.fr o.dst v.v, h', s0.pend.filter fun x => !(p.pre.getD i 0).testBit x.1, s0.hs ++ [s0.h], s0.rds⟩ k)
      | false => match kindOf P o with
        | .eff => drawK ops p.base p.pre p.ws ⟨P, G, H, call⟩ l (Nat.succ i) ⟨putA s0.fr o.dst .undef, s0.h, s0.pend, s0.hs ++ [s0.h], s0.rds⟩ k
        | _ => drawK ops p.base p.pre p.ws ⟨P, G, H, call⟩ l (Nat.succ i) ⟨putA s0.fr o.dst .undef, s0.h, s0.pend, s0.hs, s0.rds⟩ k) := rfl
    rw [e] at hg ⊢
    cases hw : wantedA ops s.fr o with
    | true =>
      rw [hw] at hW
      simp only [hW] at hg ⊢
      cases hk : kindOf P o with
      | pure =>
        simp only [hk] at hg ⊢
        rw [pureOp_congr hO] at hg ⊢
        cases hp : pureOp P s.fr o with
        | none => simp only [hp] at hg; exact (not_good _ hg).elim
        | some v =>
          simp only [hp] at hg ⊢
          refine fin (v := v) (s1 := ⟨putA s.fr o.dst v, s.h, s.pend, s.hs, s.rds⟩) ⟨hr.fr.put o.dst v, hr.h, hr.pend, hr.hs, hr.rds⟩ rfl hg fun N sF h => ⟨N + 1, ?_⟩
          unfold evalDraw; rw [hw, cond_true, hk]; simp only [hp]; exact h
      | read =>
        simp only [hk] at hg ⊢
        rw [readOp_congr hO, ← hr.h] at hg ⊢
        cases hp : readOp P G s.fr s.h o with
        | none => simp only [hp] at hg; exact (not_good _ hg).elim
        | some v =>
          simp only [hp] at hg ⊢
          refine fin (v := v) (s1 := ⟨putA s.fr o.dst v, s.h, s.pend, s.hs, ⟨o, s.fr, v, (p.ws.getD i (0, 0)).1, (p.ws.getD i (0, 0)).2⟩ :: s.rds⟩) ⟨hr.fr.put o.dst v, rfl, hr.pend, hr.hs, ?_⟩ rfl hg fun N sF h => ⟨N + 1, ?_⟩
          · intro r hrm
            rcases List.mem_cons.1 hrm with h | h
            · subst h; exact ⟨_, List.mem_cons_self .., rfl, rfl, rfl, rfl, fun x hx => (hO x hx).symm⟩
            · obtain ⟨r0, h1, h2⟩ := hr.rds r h
              exact ⟨r0, List.mem_cons_of_mem _ h1, h2⟩
          · unfold evalDraw; rw [hw, cond_true, hk]; simp only [hp]; exact h
      | alloc =>
        simp only [hk] at hg ⊢
        rw [allocOp_congr hO] at hg ⊢
        cases hp : allocOp P s.fr (p.base + i) o with
        | none => simp only [hp] at hg; exact (not_good _ hg).elim
        | some vb =>
          obtain ⟨v, b⟩ := vb
          simp only [hp] at hg ⊢
          refine fin (v := v) (s1 := ⟨putA s.fr o.dst v, s.h, (i, b) :: s.pend, s.hs, s.rds⟩) ⟨hr.fr.put o.dst v, hr.h, by simp only [hr.pend], hr.hs, hr.rds⟩ rfl hg fun N sF h => ⟨N + 1, ?_⟩
          unfold evalDraw; rw [hw, cond_true, hk]; simp only [hp]; exact h
      | eff =>
        simp only [hk] at hg ⊢
        obtain ⟨m, v, h', he, hrun⟩ := slowT_sound hc hg
        rw [hrun] at hg ⊢
        rw [V.of_v] at hg ⊢
        rw [evalOp_congr hO, ← hr.h, ← hr.pend] at he
        refine fin (v := v) (s1 := ⟨putA s.fr o.dst v, h', s.pend.filter fun x => !(p.pre.getD i 0).testBit x.1, s.hs ++ [s.h], s.rds⟩) ⟨hr.fr.put o.dst v, rfl, by simp only [hr.pend], by simp only [hr.hs, hr.h], hr.rds⟩ rfl hg fun N sF h => ⟨Nat.max m N + 1, ?_⟩
        unfold evalDraw; rw [hw, cond_true, hk]
        simp only [(mono P G H (Nat.le_max_left m N)).op he]
        exact (mono P G H (Nat.le_max_right m N)).draw h
    | false =>
      rw [hw] at hW
      simp only [hW] at hg ⊢
      cases hk : kindOf P o with
      | eff =>
        simp only [hk] at hg ⊢
        refine fin (v := .undef) (s1 := ⟨putA s.fr o.dst .undef, s.h, s.pend, s.hs ++ [s.h], s.rds⟩) ⟨hr.fr.put o.dst .undef, hr.h, hr.pend, by simp only [hr.hs, hr.h], hr.rds⟩ rfl hg fun N sF h => ⟨N + 1, ?_⟩
        unfold evalDraw; rw [hw, cond_false, hk]; exact h
      | _ =>
        simp only [hk] at hg ⊢
        refine fin (v := .undef) (s1 := ⟨putA s.fr o.dst .undef, s.h, s.pend, s.hs, s.rds⟩) ⟨hr.fr.put o.dst .undef, hr.h, hr.pend, hr.hs, hr.rds⟩ rfl hg fun N sF h => ⟨N + 1, ?_⟩
        unfold evalDraw; rw [hw, cond_false, hk]; exact h

theorem tail_congr {ops : List Oper} : ∀ (l : List Oper) (f f0 : T AVal) (h : Hp) (met : List Nat) (S : Nat → Prop) (r : T AVal × Hp), (∀ o ∈ l, ∀ t ∈ looksA ops o, S t) → Agr S f f0 → evalTail P ops l f0 h met = some r →
    ∃ f', evalTail P ops l f h met = some (f', r.2) ∧ Agr (fun t => S t ∨ ∃ o ∈ l, o.dst = some t) f' r.1 ∧ ∀ t, (∀ o ∈ l, o.dst ≠ some t) → gd f' t = gd f t
  | [], f, f0, h, met, S, r, hl, ha, he => by
    simp only [evalTail, Option.some.injEq] at he
    subst he
    exact ⟨f, by simp [evalTail], ha.mono (fun t ht => by rcases ht with h | ⟨o, ho, _⟩; exact h; cases ho), fun _ _ => rfl⟩
  | o :: l, f, f0, h, met, S, r, hl, ha, he => by
    have hlo : ∀ t ∈ looksA ops o, S t := hl o (List.mem_cons_self ..)
    have hW := ha.wanted (ops := ops) (o := o) hlo
    have hO := ha.opd (ops := ops) (o := o) hlo
    have hl' : ∀ o' ∈ l, ∀ t ∈ looksA ops o', (fun t => S t ∨ o.dst = some t) t := fun o' ho' t ht => .inl (hl o' (List.mem_cons_of_mem _ ho') t ht)
    have fin : ∀ {v : AVal} {h1 : Hp} {met1 : List Nat}, evalTail P ops l (putA f0 o.dst v) h1 met1 = some r → (∀ f', evalTail P ops l (putA f o.dst v) h1 met1 = some (f', r.2) → evalTail P ops (o :: l) f h met = some (f', r.2)) →
        ∃ f', evalTail P ops (o :: l) f h met = some (f', r.2) ∧ Agr (fun t => S t ∨ ∃ o' ∈ o :: l, o'.dst = some t) f' r.1 ∧ ∀ t, (∀ o' ∈ o :: l, o'.dst ≠ some t) → gd f' t = gd f t := by
      intro v h1 met1 he1 hstep
      obtain ⟨f', q1, q2, q3⟩ := tail_congr l (putA f o.dst v) (putA f0 o.dst v) h1 met1 _ r hl' (ha.put o.dst v) he1
      refine ⟨f', hstep f' q1, q2.mono fun t ht => ?_, fun t ht => ?_⟩
      · rcases ht with h | ⟨o', ho', hd⟩
        · exact .inl (.inl h)
        · rcases List.mem_cons.1 ho' with h | h
          · subst h; exact .inl (.inr hd)
          · exact .inr ⟨o', h, hd⟩
      · rw [q3 t fun o' ho' => ht o' (List.mem_cons_of_mem _ ho')]
        have hne := ht o (List.mem_cons_self ..)
        cases hd : o.dst with
        | none => rfl
        | some d => simp only [putA]; rw [gd_set, if_neg]; intro e; subst e; exact hne hd
    unfold evalTail at he
    cases hw : wantedA ops f o with
    | true =>
      rw [hW, hw, cond_true] at he
      cases hop : o.op with
      | store t a x =>
        simp only [hop] at he
        have ea : opdA f0 a = opdA f a := hO a (by rw [hop]; simp [Op.operands])
        have ex : opdA f0 x = opdA f x := hO x (by rw [hop]; simp [Op.operands])
        rw [ea, ex] at he
        split at he
        · rename_i b off v ha1 hx1
          cases hm : met.contains b with
          | true => rw [hm] at he; cases he
          | false =>
            rw [hm, cond_false] at he
            split at he
            · rename_i h1 hs
              refine fin he fun f' hf' => ?_
              unfold evalTail; rw [hw, cond_true]; simp only [hop, ha1, hx1, hm, cond_false, hs]; exact hf'
            · cases he
        · cases he
      | _ =>
        simp only [hop] at he
        rw [pureOp_congr hO] at he
        split at he
        · rename_i v hv
          refine fin he fun f' hf' => ?_
          unfold evalTail; rw [hw, cond_true]; simp only [hop, hv]; exact hf'
        · cases he
    | false =>
      rw [hW, hw, cond_false] at he
      refine fin he fun f' hf' => ?_
      unfold evalTail; rw [hw, cond_false]; exact hf'

theorem mem_slotsL : ∀ (l : List Nat) (m t : Nat), t ∈ l → t ∈ slotsL l m ∨ hasB m t = true
  | [], m, t, h => by cases h
  | a :: l, m, t, h => by
    unfold slotsL
    cases hm : hasB m a with
    | true =>
      simp only
      rcases List.mem_cons.1 h with h | h
      · subst h; exact .inr hm
      · exact mem_slotsL l m t h
    | false =>
      simp only
      rcases List.mem_cons.1 h with h | h
      · subst h; exact .inl (List.mem_cons_self ..)
      · rcases mem_slotsL l (addB m a) t h with h | h
        · exact .inl (List.mem_cons_of_mem _ h)
        · rw [hasB_add, Bool.or_eq_true, decide_eq_true_eq] at h
          rcases h with h | h
          · exact .inr h
          · subst h; exact .inl (List.mem_cons_self ..)
theorem mem_slotsR {ops : List Oper} {o : Oper} (ho : o ∈ ops) {t : Nat} (ht : t ∈ looksA ops o) : t ∈ slotsR ops := by
  unfold slotsR
  rcases mem_slotsL (ops.flatMap (looksA ops)) 0 t (List.mem_flatMap.2 ⟨o, ho, ht⟩) with h | h
  · exact h
  · rw [hasB_eq] at h; simp at h
theorem clear_spec {l : List Nat} (h : clear loc l = true) {t : Nat} (ht : t ∈ l) : hasB loc t = false ∧ t < 4096 := by
  unfold clear at h
  have := List.all_eq_true.1 h t ht
  simp only [Bool.and_eq_true, Bool.not_eq_true'] at this
  exact ⟨this.1, blt_true this.2⟩
theorem takeF_gd : ∀ (l : List Nat) (fr : FR) (t : Nat), t ∈ l → gd (takeF l fr) t = (fr.at t).v
  | [], fr, t, h => by cases h
  | a :: l, fr, t, h => by
    have e : takeF (a :: l) fr = (takeF l fr).set a ((xSlot 0 a).ev fr env0).v := rfl
    rw [e, gd_set]
    split
    · rename_i h; subst h; rfl
    · rename_i hne
      rcases List.mem_cons.1 h with h | h
      · exact absurd h.symm hne
      · exact takeF_gd l fr t h
theorem giveF_at : ∀ (l : List Nat) (f : T AVal) (fr : FR) (t : Nat), (∀ s ∈ l, s < 4096) → t < 4096 → (giveF l f fr).at t = if t ∈ l then V.of (gd f t) else fr.at t
  | [], f, fr, t, hl, ht => by simp [giveF]
  | a :: l, f, fr, t, hl, ht => by
    have e : giveF (a :: l) f fr = giveF l f ((spSlot a).put (V.of (gd f a)) fr) := rfl
    rw [e, giveF_at l f _ t (fun s hs => hl s (List.mem_cons_of_mem _ hs)) ht, FR.at_put (hl a (List.mem_cons_self ..)) ht]
    by_cases h1 : t ∈ l
    · rw [if_pos h1, if_pos (List.mem_cons_of_mem _ h1)]
    · rw [if_neg h1]
      by_cases h2 : a = t
      · subst h2; rw [if_pos rfl, if_pos (List.mem_cons_self ..)]
      · rw [if_neg h2, if_neg]
        intro h; rcases List.mem_cons.1 h with h | h
        · exact h2 h.symm
        · exact h1 h

theorem agree_congr {hs : List Hp} {r r0 : Rd} (h1 : r.o = r0.o) (h2 : r.v = r0.v) (h3 : r.lo = r0.lo) (h4 : r.hi = r0.hi) (h5 : ∀ x ∈ r.o.op.operands, opdA r.fr x = opdA r0.fr x) (h : agree P G hs r0 = true) : agree P G hs r = true := by
  obtain ⟨o, fr, v, lo, hi⟩ := r
  obtain ⟨o0, fr0, v0, lo0, hi0⟩ := r0
  simp only at h1 h2 h3 h4 h5
  subst h1; subst h2; subst h3; subst h4
  unfold agree at h ⊢
  rw [List.all_eq_true] at h ⊢
  intro x hx
  have := h x hx
  simp only at this ⊢
  rw [readOp_congr h5]
  exact this

theorem draw_code {id : Nat} {ops : Array Oper} {f : T AVal} {fr : FR} {h : Hp} {k : KS} {call : CallF} (hc : CallGood P G H call) (hrel : FrRel loc f fr) (ho : orderly P ops.toList = true) (hcl : (clear loc (slotsR ops.toList) && clear loc (dstsR ops.toList)) = true)
    (hg : Good (runD (slotsR ops.toList) (dstsR ops.toList) ops.toList (tailOf P ops.toList) (befores ops.toList) (windows P ops.toList) ⟨P, G, H, call⟩ fr h k)) :
    ∃ M f' fr' h', evalCode P G H M (.region id ops true) f h = some ⟨.normal, f', h'⟩ ∧ FrRel loc f' fr' ∧
      runD (slotsR ops.toList) (dstsR ops.toList) ops.toList (tailOf P ops.toList) (befores ops.toList) (windows P ops.toList) ⟨P, G, H, call⟩ fr h k = k fr' h' := by
  simp only [Bool.and_eq_true] at hcl
  obtain ⟨hcs, hcd⟩ := hcl
  generalize hl : ops.toList = l at *
  unfold runD at hg ⊢
  have hlk : ∀ o ∈ l, ∀ t ∈ looksA l o, (fun t => t ∈ slotsR l) t := fun o ho t ht => mem_slotsR ho ht
  have hr0 : DSR (fun t => t ∈ slotsR l) l ⟨f, ⟨h.t, h.next + l.length⟩, [], [], []⟩ ⟨takeF (slotsR l) fr, ⟨h.t, h.next + l.length⟩, [], [], []⟩ := by
    refine ⟨fun t ht => ?_, rfl, rfl, rfl, fun r hr => by cases hr⟩
    obtain ⟨q1, q2⟩ := clear_spec hcs ht
    show gd f t = gd (takeF (slotsR l) fr) t
    rw [takeF_gd _ _ _ ht, hrel t q1 q2, V.of_v]
  obtain ⟨N, sF, s0F, e1, e2, e3, e4⟩ := draw_congr (p := planOf P l h.next) hc (l.take (tailOf P l)) 0 _ _ _ _ (fun o ho => hlk o (List.mem_of_mem_take ho)) hr0 hg
  have e4' := e4
  simp only [planOf] at e4'
  rw [e4'] at hg ⊢
  cases hag : s0F.rds.all (agree P G (s0F.hs ++ [s0F.h])) with
  | false => simp only [hag] at hg; exact (not_good _ hg).elim
  | true =>
    simp only [hag] at hg ⊢
    cases ht : evalTail P l (l.drop (tailOf P l)) s0F.fr (publishAll h.next s0F.pend s0F.h) [] with
    | none => simp only [ht] at hg; exact (not_good _ hg).elim
    | some r =>
      obtain ⟨f0, h'⟩ := r
      simp only [ht] at hg ⊢
      obtain ⟨f', t1, t2, t3⟩ := tail_congr (P := P) (l.drop (tailOf P l)) sF.fr s0F.fr _ [] _ (f0, h') (fun o ho t ht => .inl (hlk o (List.mem_of_mem_drop ho) t ht)) e2.fr ht
      refine ⟨N + 1, f', giveF (dstsR l) f0 fr, h', ?_, ?_, rfl⟩
      · unfold evalCode
        simp only [hl]
        rw [ho, cond_true]
        have e1' : evalDraw P G H N l (List.take (planOf P l h.next).tail l) (planOf P l h.next) 0 ⟨f, ⟨h.t, h.next + l.length⟩, [], [], []⟩ = some sF := e1
        rw [e1']
        simp only
        have hag' : sF.rds.all (agree P G (sF.hs ++ [sF.h])) = true := by
          rw [List.all_eq_true]
          intro r hr
          obtain ⟨r0, m1, m2, m3, m4, m5, m6⟩ := e2.rds r hr
          rw [e2.hs, e2.h]
          exact agree_congr m2 m3 m4 m5 m6 (List.all_eq_true.1 hag r0 m1)
        rw [hag', cond_true]
        have t1' : evalTail P l (List.drop (planOf P l h.next).tail l) sF.fr (publishAll (planOf P l h.next).base sF.pend sF.h) [] = some (f', h') := by
          rw [e2.pend, e2.h]; exact t1
        rw [t1']
      · intro t q1 q2
        rw [giveF_at _ _ _ _ (fun s hs => (clear_spec hcd hs).2) q2]
        have hd : ∀ o ∈ l, o.dst = some t → t ∈ dstsR l := fun o ho hd => List.mem_filterMap.2 ⟨o, ho, hd⟩
        by_cases hm : t ∈ dstsR l
        · rw [if_pos hm]
          congr 1
          refine (t2 t ?_).symm
          obtain ⟨o, ho, hdo⟩ := List.mem_filterMap.1 hm
          rw [← List.take_append_drop (tailOf P l) l] at ho
          rcases List.mem_append.1 ho with ho | ho
          · exact .inl (.inr ⟨o, ho, hdo⟩)
          · exact .inr ⟨o, ho, hdo⟩
        · rw [if_neg hm]
          have n1 : ∀ o ∈ l, o.dst ≠ some t := fun o ho hd' => hm (hd o ho hd')
          rw [t3 t fun o ho => n1 o (List.mem_of_mem_drop ho), e3 t fun o ho => n1 o (List.mem_of_mem_take ho)]
          exact hrel t q1 q2
end
end
end Go.Ae
/- Code, functions, calls: what the quick evaluator answers, the evaluator answers. No condition. -/
set_option linter.unusedVariables false
set_option linter.unusedSimpArgs false
namespace Go.Ae
open Go
noncomputable section

def kont (ex : Ex) (kn : KS) (kx : KX) (kr : KS) (fr : FR) (h : Hp) : Out := match ex with
  | .normal => kn fr h
  | .exit id => kx id fr h
  | .ret => kr fr h
  | .goto _ => .bad 0
def COk (P : Program) (G : Nat → Option AVal) (H : Hook) (loc : Nat) (c : Code) (cf : CF) : Prop :=
  ∀ call, CallGood P G H call → ∀ f fr h kn kx kr, FrRel loc f fr → Good (cf.run ⟨P, G, H, call⟩ fr h kn kx kr) →
    ∃ M ex f' h' fr', evalCode P G H M c f h = some ⟨ex, f', h'⟩ ∧ FrRel loc f' fr' ∧ cf.run ⟨P, G, H, call⟩ fr h kn kx kr = kont ex kn kx kr fr' h'

section
variable {P : Program} {G : Nat → Option AVal} {H : Hook} {loc : Nat}

theorem cBad_ok {c : Code} (w : Nat) : COk P G H loc c (cBad w) := fun call hc f fr h kn kx kr hr hg => (not_good w hg).elim
theorem cSeq_ok {a b : Code} {x y : CF} (ha : COk P G H loc a x) (hb : COk P G H loc b y) : COk P G H loc (.seq a b) (cSeq x y) := by
  intro call hc f fr h kn kx kr hr hg
  obtain ⟨M, ex, f1, h1, fr1, e1, e2, e3⟩ := ha call hc f fr h (fun fr h => y.run ⟨P, G, H, call⟩ fr h kn kx kr) kx kr hr hg
  have e3' : (cSeq x y).run ⟨P, G, H, call⟩ fr h kn kx kr = kont ex (fun fr h => y.run ⟨P, G, H, call⟩ fr h kn kx kr) kx kr fr1 h1 := e3
  rw [e3'] at hg ⊢
  cases ex with
  | normal =>
    obtain ⟨M', ex', f2, h2, fr2, q1, q2, q3⟩ := hb call hc f1 fr1 h1 kn kx kr e2 hg
    refine ⟨Nat.max M M' + 1, ex', f2, h2, fr2, ?_, q2, q3⟩
    unfold evalCode
    simp only [(mono P G H (Nat.le_max_left M M')).code e1]
    exact (mono P G H (Nat.le_max_right M M')).code q1
  | goto l => exact (not_good _ hg).elim
  | exit id => exact ⟨M + 1, .exit id, f1, h1, fr1, by unfold evalCode; simp only [e1], e2, rfl⟩
  | ret => exact ⟨M + 1, .ret, f1, h1, fr1, by unfold evalCode; simp only [e1], e2, rfl⟩

/-- A region's closure, ending with a value, and what is made of it. -/
theorem region_ok {id : Nat} {ops : Array Oper} {fin : FinT} {call : CallF} (hc : CallGood P G H call) {f : T AVal} {fr : FR} {h : Hp} {k : KF} (hr : FrRel loc f fr) (hg : Good ((compL loc P ops.toList fin ops.toList 0 .init).run ⟨P, G, H, call⟩ fr env0 h k)) :
    ∃ M f' h' n' cs' fr' L', evalCode P G H M (.region id ops false) f h = some ⟨.normal, f', h'⟩ ∧ Inv loc n' cs' f' fr' L' ∧
      (compL loc P ops.toList fin ops.toList 0 .init).run ⟨P, G, H, call⟩ fr env0 h k = (fin n' cs').run ⟨P, G, H, call⟩ fr' L' h' k := by
  obtain ⟨N, f', h', n', cs', fr', L', e1, e2, e3⟩ := compL_ok P G H loc ops.toList fin ops.toList 0 .init call hc f fr env0 h k (Inv.start hr) hg
  exact ⟨N + 1, f', h', n', cs', fr', L', by unfold evalCode; simp only [e1], e2, e3⟩
theorem regionQ_ok {id : Nat} {ops : Array Oper} {fin : FinT} {e : EV} (he : e = ⟨P, G, H, e.call⟩) {f : T AVal} {fr : FR} {h : Hp} {k : KF} (hr : FrRel loc f fr) (hq : ops.toList.all (quietO P) = true) (ho : orderly P ops.toList = true)
    (hg : Good ((compL loc P ops.toList fin ops.toList 0 .init).run e.quiet fr env0 (h.bump ops.toList.length) k)) :
    ∃ M f' h' n' cs' fr' L', evalCode P G H M (.region id ops true) f h = some ⟨.normal, f', h'⟩ ∧ Inv loc n' cs' f' fr' L' ∧
      (compL loc P ops.toList fin ops.toList 0 .init).run e.quiet fr env0 (h.bump ops.toList.length) k = (fin n' cs').run e.quiet fr' L' h' k := by
  have eq : e.quiet = ⟨P, G, quietH H, fun _ _ _ _ _ => .bad 46⟩ := by rw [he]; rfl
  rw [eq] at hg ⊢
  obtain ⟨N, f', h', n', cs', fr', L', e1, e2, e3⟩ := compL_ok P G (quietH H) loc ops.toList fin ops.toList 0 .init _ (callGood_bad 46) f fr env0 (h.bump ops.toList.length) k (Inv.start hr) hg
  obtain ⟨M, hM⟩ := quiet_code (H := H) (id := id) hq ho e1
  exact ⟨M, f', h', n', cs', fr', L', hM, e2, e3⟩
theorem drawC_ok {id : Nat} {ops : Array Oper} (ho : orderly P ops.toList = true) : COk P G H loc (.region id ops true) (drawC loc P ops.toList) := by
  unfold drawC
  cases hcl : clear loc (slotsR ops.toList) && clear loc (dstsR ops.toList) with
  | false => exact cBad_ok _
  | true =>
    intro call hc f fr h kn kx kr hr hg
    obtain ⟨M, f', fr', h', e1, e2, e3⟩ := draw_code (id := id) (k := kn) hc hr ho hcl hg
    exact ⟨M, .normal, f', h', fr', e1, e2, e3⟩
theorem compR_ok {id : Nat} {ops : Array Oper} {d : Bool} (ho : ordC P (.region id ops d) = true) : COk P G H loc (.region id ops d) (compR loc P ops.toList d) := by
  cases d with
  | false =>
    intro call hc f fr h kn kx kr hr hg
    obtain ⟨M, f', h', n', cs', fr', L', e1, e2, e3⟩ := region_ok (id := id) (fin := finNil) (k := fun fr _ h => kn fr h) hc hr hg
    exact ⟨M, .normal, f', h', fr', e1, e2.nl, e3⟩
  | true =>
    have ho' : orderly P ops.toList = true := ho
    unfold compR
    cases hq : ops.toList.all (quietO P) with
    | false => exact drawC_ok ho'
    | true =>
      intro call hc f fr h kn kx kr hr hg
      obtain ⟨M, f', h', n', cs', fr', L', e1, e2, e3⟩ := regionQ_ok (id := id) (fin := finNil) (e := ⟨P, G, H, call⟩) (k := fun fr _ h => kn fr h) rfl hr hq ho' hg
      exact ⟨M, .normal, f', h', fr', e1, e2.nl, e3⟩

/-- A test behind a region. -/
theorem test_ok {r : Code} {x : Operand} {p q : Code} {a b : CF} (hp : COk P G H loc p a) (hq : COk P G H loc q b) {call : CallF} (hc : CallGood P G H call) {f f' : T AVal} {h h' : Hp} {fr' : FR} {kn : KS} {kx : KX} {kr : KS} {M n' : Nat} {cs' : CS} {L' : EnvT n'} {e : EV}
    (e1 : evalCode P G H M r f h = some ⟨.normal, f', h'⟩) (inv : Inv loc n' cs' f' fr' L')
    (hg : Good ((finX loc x n' cs').run e fr' L' h' (fun fr v h => ifB (Nat.beq v.tag 1) (Bool.rec (b.run ⟨P, G, H, call⟩ fr h kn kx kr) (a.run ⟨P, G, H, call⟩ fr h kn kx kr) v.t) (.bad 40)))) :
    ∃ M ex f2 h2 fr2, evalCode P G H M (.seq r (.cond x p q)) f h = some ⟨ex, f2, h2⟩ ∧ FrRel loc f2 fr2 ∧
      (finX loc x n' cs').run e fr' L' h' (fun fr v h => ifB (Nat.beq v.tag 1) (Bool.rec (b.run ⟨P, G, H, call⟩ fr h kn kx kr) (a.run ⟨P, G, H, call⟩ fr h kn kx kr) v.t) (.bad 40)) = kont ex kn kx kr fr2 h2 := by
  unfold finX at hg ⊢
  rcases res_cases (loc := loc) (cs := cs') (gs := []) x (oBad 96 : OF n') oFin with hb | ⟨y, hy, hb⟩
  · rw [hb] at hg; exact (not_good _ hg).elim
  · rw [hb] at hg ⊢
    obtain ⟨v, hv, hye⟩ := hy f' fr' L' inv (fun u hu => by cases hu)
    have hrun : (oFin y).run e fr' L' h' (fun fr v h => ifB (Nat.beq v.tag 1) (Bool.rec (b.run ⟨P, G, H, call⟩ fr h kn kx kr) (a.run ⟨P, G, H, call⟩ fr h kn kx kr) v.t) (.bad 40)) =
        ifB (Nat.beq (V.of v).tag 1) (Bool.rec (b.run ⟨P, G, H, call⟩ fr' h' kn kx kr) (a.run ⟨P, G, H, call⟩ fr' h' kn kx kr) (V.of v).t) (.bad 40) := by rw [← hye]; rfl
    rw [hrun] at hg ⊢
    cases ht : Nat.beq (V.of v).tag 1 with
    | false => rw [ifB_false ht] at hg; exact (not_good _ hg).elim
    | true =>
      rw [ifB_true ht] at hg; rw [ifB_true rfl]
      have hvb := tag_bool (Nat.eq_of_beq_eq_true ht)
      cases htt : (V.of v).t with
      | true =>
        rw [htt] at hg hvb
        obtain ⟨M', ex, f2, h2, fr2, q1, q2, q3⟩ := hp call hc f' fr' h' kn kx kr inv.nl hg
        refine ⟨Nat.max M (M' + 1) + 1, ex, f2, h2, fr2, ?_, q2, q3⟩
        unfold evalCode
        simp only [(mono P G H (Nat.le_max_left M (M' + 1))).code e1]
        refine (mono P G H (Nat.le_max_right M (M' + 1))).code ?_
        unfold evalCode
        simp only [hv, hvb]
        exact q1
      | false =>
        rw [htt] at hg hvb
        obtain ⟨M', ex, f2, h2, fr2, q1, q2, q3⟩ := hq call hc f' fr' h' kn kx kr inv.nl hg
        refine ⟨Nat.max M (M' + 1) + 1, ex, f2, h2, fr2, ?_, q2, q3⟩
        unfold evalCode
        simp only [(mono P G H (Nat.le_max_left M (M' + 1))).code e1]
        refine (mono P G H (Nat.le_max_right M (M' + 1))).code ?_
        unfold evalCode
        simp only [hv, hvb]
        exact q1
theorem condC_ok {x : Operand} {p q : Code} {a b : CF} (hp : COk P G H loc p a) (hq : COk P G H loc q b) : COk P G H loc (.cond x p q) (condC loc x a b) := by
  unfold condC
  rcases res_cases (loc := loc) (cs := CS.init) (gs := []) (n := 0) x (cBad 98) (fun y => cTest (oFin y) a b) with hb | ⟨y, hy, hb⟩
  · rw [hb]; exact cBad_ok _
  · rw [hb]
    intro call hc f fr h kn kx kr hr hg
    obtain ⟨v, hv, hye⟩ := hy f fr env0 (Inv.start hr) (fun u hu => by cases hu)
    have hrun : (cTest (oFin y) a b).run ⟨P, G, H, call⟩ fr h kn kx kr =
        ifB (Nat.beq (V.of v).tag 1) (Bool.rec (b.run ⟨P, G, H, call⟩ fr h kn kx kr) (a.run ⟨P, G, H, call⟩ fr h kn kx kr) (V.of v).t) (.bad 40) := by rw [← hye]; rfl
    rw [hrun] at hg ⊢
    cases ht : Nat.beq (V.of v).tag 1 with
    | false => rw [ifB_false ht] at hg; exact (not_good _ hg).elim
    | true =>
      rw [ifB_true ht] at hg; rw [ifB_true rfl]
      have hvb := tag_bool (Nat.eq_of_beq_eq_true ht)
      cases htt : (V.of v).t with
      | true =>
        rw [htt] at hg hvb
        obtain ⟨M', ex, f2, h2, fr2, q1, q2, q3⟩ := hp call hc f fr h kn kx kr hr hg
        exact ⟨M' + 1, ex, f2, h2, fr2, by unfold evalCode; simp only [hv, hvb]; exact q1, q2, q3⟩
      | false =>
        rw [htt] at hg hvb
        obtain ⟨M', ex, f2, h2, fr2, q1, q2, q3⟩ := hq call hc f fr h kn kx kr hr hg
        exact ⟨M' + 1, ex, f2, h2, fr2, by unfold evalCode; simp only [hv, hvb]; exact q1, q2, q3⟩
theorem compT_ok {id : Nat} {ops : Array Oper} {d : Bool} {x : Operand} {p q : Code} {a b : CF} (ho : ordC P (.region id ops d) = true) (hp : COk P G H loc p a) (hq : COk P G H loc q b) :
    COk P G H loc (.seq (.region id ops d) (.cond x p q)) (compT loc P ops.toList d x a b) := by
  cases d with
  | false =>
    intro call hc f fr h kn kx kr hr hg
    have hg' : Good ((compL loc P ops.toList (finX loc x) ops.toList 0 .init).run ⟨P, G, H, call⟩ fr env0 h (fun fr v h => ifB (Nat.beq v.tag 1) (Bool.rec (b.run ⟨P, G, H, call⟩ fr h kn kx kr) (a.run ⟨P, G, H, call⟩ fr h kn kx kr) v.t) (.bad 40))) := hg
    obtain ⟨M, f', h', n', cs', fr', L', e1, e2, e3⟩ := region_ok (id := id) (fin := finX loc x) hc hr hg'
    have e3' : (compT loc P ops.toList false x a b).run ⟨P, G, H, call⟩ fr h kn kx kr = _ := e3
    rw [e3'] at hg ⊢
    exact test_ok hp hq hc e1 e2 hg
  | true =>
    have ho' : orderly P ops.toList = true := ho
    unfold compT
    cases hqq : ops.toList.all (quietO P) with
    | false => exact cSeq_ok (drawC_ok ho') (condC_ok hp hq)
    | true =>
      intro call hc f fr h kn kx kr hr hg
      have hg' : Good ((compL loc P ops.toList (finX loc x) ops.toList 0 .init).run (EV.quiet ⟨P, G, H, call⟩) fr env0 (h.bump ops.toList.length) (fun fr v h => ifB (Nat.beq v.tag 1) (Bool.rec (b.run ⟨P, G, H, call⟩ fr h kn kx kr) (a.run ⟨P, G, H, call⟩ fr h kn kx kr) v.t) (.bad 40))) := by
        simp only [hqq] at hg
        exact hg
      obtain ⟨M, f', h', n', cs', fr', L', e1, e2, e3⟩ := regionQ_ok (id := id) (fin := finX loc x) (e := ⟨P, G, H, call⟩) rfl hr hqq ho' hg'
      have e3' : (cTestQ ops.toList.length (compL loc P ops.toList (finX loc x) ops.toList 0 .init) a b).run ⟨P, G, H, call⟩ fr h kn kx kr = _ := e3
      have hgoal : ∀ z : Out, (cTestQ ops.toList.length (compL loc P ops.toList (finX loc x) ops.toList 0 .init) a b).run ⟨P, G, H, call⟩ fr h kn kx kr = z → Good z →
          (∃ M ex f2 h2 fr2, evalCode P G H M (.seq (.region id ops true) (.cond x p q)) f h = some ⟨ex, f2, h2⟩ ∧ FrRel loc f2 fr2 ∧ z = kont ex kn kx kr fr2 h2) →
          ∃ M ex f2 h2 fr2, evalCode P G H M (.seq (.region id ops true) (.cond x p q)) f h = some ⟨ex, f2, h2⟩ ∧ FrRel loc f2 fr2 ∧
            (cTestQ ops.toList.length (compL loc P ops.toList (finX loc x) ops.toList 0 .init) a b).run ⟨P, G, H, call⟩ fr h kn kx kr = kont ex kn kx kr fr2 h2 := by
        intro z hz _ hh; rw [hz]; exact hh
      rw [e3] at hg'
      exact hgoal _ e3' hg' (test_ok hp hq hc e1 e2 hg')
theorem seq_assoc {r c d : Code} {z : CF} (h : COk P G H loc (.seq (.seq r c) d) z) : COk P G H loc (.seq r (.seq c d)) z := by
  intro call hc f fr h' kn kx kr hr hg
  obtain ⟨M, ex, f2, h2, fr2, q1, q2, q3⟩ := h call hc f fr h' kn kx kr hr hg
  refine ⟨M + 1, ex, f2, h2, fr2, ?_, q2, q3⟩
  cases M with
  | zero => simp [evalCode] at q1
  | succ M =>
    unfold evalCode at q1
    simp only at q1
    cases M with
    | zero => simp [evalCode] at q1
    | succ M =>
      -- the inner run
      cases hi : evalCode P G H (M + 1) (.seq r c) f h' with
      | none => rw [hi] at q1; cases q1
      | some ri =>
        rw [hi] at q1
        unfold evalCode at hi
        simp only at hi
        unfold evalCode
        simp only
        cases hri : evalCode P G H M r f h' with
        | none => rw [hri] at hi; cases hi
        | some rr =>
          rw [hri] at hi
          have m1 := (mono P G H (Nat.le_add_right M 2)).code hri
          rw [m1]
          obtain ⟨er, fr1, h1⟩ := rr
          cases er with
          | normal =>
            simp only at hi ⊢
            unfold evalCode
            simp only
            have m2 := (mono P G H (Nat.le_succ M)).code hi
            rw [m2]
            exact q1
          | _ =>
            simp only [Option.some.injEq] at hi ⊢
            subst hi
            simpa using q1
theorem cBlock_ok {id : Nat} {b : Code} {x : CF} (hb : COk P G H loc b x) : COk P G H loc (.block id b) (cBlock id x) := by
  intro call hc f fr h kn kx kr hr hg
  obtain ⟨M, ex, f1, h1, fr1, e1, e2, e3⟩ := hb call hc f fr h kn (fun id' fr h => ifB (Nat.beq id' id) (kn fr h) (kx id' fr h)) kr hr hg
  have e3' : (cBlock id x).run ⟨P, G, H, call⟩ fr h kn kx kr = kont ex kn (fun id' fr h => ifB (Nat.beq id' id) (kn fr h) (kx id' fr h)) kr fr1 h1 := e3
  rw [e3'] at hg ⊢
  cases ex with
  | normal => exact ⟨M + 1, .normal, f1, h1, fr1, by unfold evalCode; simp only [e1], e2, rfl⟩
  | goto l => exact (not_good _ hg).elim
  | ret => exact ⟨M + 1, .ret, f1, h1, fr1, by unfold evalCode; simp only [e1], e2, rfl⟩
  | exit id' =>
    cases hq : Nat.beq id' id with
    | true => exact ⟨M + 1, .normal, f1, h1, fr1, by unfold evalCode; simp only [e1, hq, cond_true], e2, by show ifB (Nat.beq id' id) _ _ = _; rw [ifB_true hq]; rfl⟩
    | false => exact ⟨M + 1, .exit id', f1, h1, fr1, by unfold evalCode; simp only [e1, hq, cond_false], e2, by show ifB (Nat.beq id' id) _ _ = _; rw [ifB_false hq]; rfl⟩
theorem cLoop_ok {b : Code} {x : CF} (hb : COk P G H loc b x) : COk P G H loc (.loop b) (cLoop x) := by
  intro call hc f fr h kn kx kr hr hg
  have key : ∀ (K : Nat) (f : T AVal) (fr : FR) (h : Hp), FrRel loc f fr → Good (Nat.rec (motive := fun _ => FR → Hp → Out) (fun _ _ => .bad 42) (fun _ lp fr h => x.run ⟨P, G, H, call⟩ fr h lp kx kr) K fr h) →
      ∃ M ex f' h' fr', evalCode P G H M (.loop b) f h = some ⟨ex, f', h'⟩ ∧ FrRel loc f' fr' ∧ Nat.rec (motive := fun _ => FR → Hp → Out) (fun _ _ => .bad 42) (fun _ lp fr h => x.run ⟨P, G, H, call⟩ fr h lp kx kr) K fr h = kont ex kn kx kr fr' h' := by
    intro K
    induction K with
    | zero => intro f fr h _ hg; exact (not_good _ hg).elim
    | succ K ih =>
      intro f fr h hr hg
      obtain ⟨M, ex, f1, h1, fr1, e1, e2, e3⟩ := hb call hc f fr h (Nat.rec (motive := fun _ => FR → Hp → Out) (fun _ _ => .bad 42) (fun _ lp fr h => x.run ⟨P, G, H, call⟩ fr h lp kx kr) K) kx kr hr hg
      have e3' : Nat.rec (motive := fun _ => FR → Hp → Out) (fun _ _ => .bad 42) (fun _ lp fr h => x.run ⟨P, G, H, call⟩ fr h lp kx kr) (K + 1) fr h = kont ex (Nat.rec (motive := fun _ => FR → Hp → Out) (fun _ _ => .bad 42) (fun _ lp fr h => x.run ⟨P, G, H, call⟩ fr h lp kx kr) K) kx kr fr1 h1 := e3
      rw [e3'] at hg ⊢
      cases ex with
      | normal =>
        obtain ⟨M', ex', f2, h2, fr2, q1, q2, q3⟩ := ih f1 fr1 h1 e2 hg
        refine ⟨Nat.max M M' + 1, ex', f2, h2, fr2, ?_, q2, q3⟩
        unfold evalCode
        simp only [(mono P G H (Nat.le_max_left M M')).code e1]
        exact (mono P G H (Nat.le_max_right M M')).code q1
      | goto l => exact (not_good _ hg).elim
      | exit id => exact ⟨M + 1, .exit id, f1, h1, fr1, by unfold evalCode; simp only [e1], e2, rfl⟩
      | ret => exact ⟨M + 1, .ret, f1, h1, fr1, by unfold evalCode; simp only [e1], e2, rfl⟩
  exact key 1000000 f fr h hr hg
theorem cScope_ok {b : Code} {x : CF} (hb : COk P G H loc b x) : COk P G H loc (.scope b) x := by
  intro call hc f fr h kn kx kr hr hg
  obtain ⟨M, ex, f1, h1, fr1, e1, e2, e3⟩ := hb call hc f fr h kn kx kr hr hg
  rw [e3] at hg
  refine ⟨M + 1, ex, f1, h1, fr1, ?_, e2, e3⟩
  unfold evalCode
  simp only [e1]
  cases ex with
  | goto l => exact (not_good _ hg).elim
  | _ => rfl

theorem and_true' {a b : Bool} (h : and a b = true) : a = true ∧ b = true := by cases a <;> cases b <;> first | exact ⟨rfl, rfl⟩ | cases h
theorem compC_ok (P : Program) (G : Nat → Option AVal) (H : Hook) (loc : Nat) : ∀ c : Code, ordC P c = true → COk P G H loc c (compC loc P c)
  | .skip, _ => fun call hc f fr h kn kx kr hr hg => ⟨1, .normal, f, h, fr, by simp [evalCode], hr, by simp [compC]; rfl⟩
  | .label l, _ => fun call hc f fr h kn kx kr hr hg => ⟨1, .normal, f, h, fr, by simp [evalCode], hr, by simp [compC]; rfl⟩
  | .region id ops d, ho => by have := compR_ok (G := G) (H := H) (loc := loc) ho; simpa [compC] using this
  | .seq a b, ho => by
    have ho' : and (ordC P a) (ordC P b) = true := by simpa [ordC] using ho
    obtain ⟨h1, h2⟩ := and_true' ho'
    have ha := compC_ok P G H loc a h1
    have hb := compC_ok P G H loc b h2
    cases a with
    | region id ops d =>
      cases b with
      | cond x p q =>
        have h2' : and (ordC P p) (ordC P q) = true := by simpa [ordC] using h2
        obtain ⟨g1, g2⟩ := and_true' h2'
        have hp := compC_ok P G H loc p g1
        have hq := compC_ok P G H loc q g2
        have := compT_ok (x := x) h1 hp hq
        simpa [compC] using this
      | seq b1 c =>
        cases b1 with
        | cond x p q =>
          have h2' : and (ordC P (.cond x p q)) (ordC P c) = true := by simpa [ordC] using h2
          obtain ⟨g0, g3⟩ := and_true' h2'
          have g0' : and (ordC P p) (ordC P q) = true := by simpa [ordC] using g0
          obtain ⟨g1, g2⟩ := and_true' g0'
          have hp := compC_ok P G H loc p g1
          have hq := compC_ok P G H loc q g2
          have hcc := compC_ok P G H loc c g3
          have := seq_assoc (cSeq_ok (compT_ok (x := x) h1 hp hq) hcc)
          simpa [compC] using this
        | _ => have := cSeq_ok ha hb; simpa [compC] using this
      | _ => have := cSeq_ok ha hb; simpa [compC] using this
    | _ => have := cSeq_ok ha hb; simpa [compC] using this
  | .cond x a b, ho => by
    have ho' : and (ordC P a) (ordC P b) = true := by simpa [ordC] using ho
    obtain ⟨h1, h2⟩ := and_true' ho'
    have := condC_ok (x := x) (compC_ok P G H loc a h1) (compC_ok P G H loc b h2)
    simpa [compC] using this
  | .block id b, ho => by
    have := cBlock_ok (id := id) (compC_ok P G H loc b (by simpa [ordC] using ho))
    simpa [compC] using this
  | .loop b, ho => by
    have := cLoop_ok (compC_ok P G H loc b (by simpa [ordC] using ho))
    simpa [compC] using this
  | .scope b, ho => by
    have := cScope_ok (compC_ok P G H loc b (by simpa [ordC] using ho))
    simpa [compC] using this
  | .exit id, _ => fun call hc f fr h kn kx kr hr hg => ⟨1, .exit id, f, h, fr, by simp [evalCode], hr, by simp [compC]; rfl⟩
  | .ret, _ => fun call hc f fr h kn kx kr hr hg => ⟨1, .ret, f, h, fr, by simp [evalCode], hr, by simp [compC]; rfl⟩
  | .rangeFunc _ _ _ _, _ => by simp only [compC]; exact cBad_ok _
  | .goto _, _ => by simp only [compC]; exact cBad_ok _
  | .refuse _, _ => by simp only [compC]; exact cBad_ok _
end
end
end Go.Ae
/- Calls: what the quick evaluator answers stands for every run of the model. Conditions: the functions that were compiled have regions in which no order matters (ordP), the elder evaluator's own conditions. -/
set_option linter.unusedVariables false
set_option linter.unusedSimpArgs false
namespace Go.Ae
open Go
noncomputable section
section
variable {P : Program} {G : Nat → Option AVal} {H : Hook}

theorem frOf_rel : ∀ (args : List AVal) (i : Nat) (f : T AVal) (fr : FR) (t : Nat), t < 4096 → fr.at t = V.of (gd f t) → (frOf args i fr).at t = V.of (gd (initFr args i f) t)
  | [], i, f, fr, t, ht, h => h
  | v :: l, i, f, fr, t, ht, h => by
    have e1 : frOf (v :: l) i fr = frOf l (i + 1) ((spSlot i).put (V.of v) fr) := rfl
    have e2 : initFr (v :: l) i f = initFr l (i + 1) (f.set i v) := rfl
    rw [e1, e2]
    refine frOf_rel l (i + 1) _ _ t ht ?_
    rw [FR.at_put' ht, gd_set]
    split
    · rfl
    · exact h
theorem frOf_start (loc : Nat) (args : List AVal) : FrRel loc (initFr args 0 .e) (frOf args 0 .e) := fun t _ ht => by
  refine frOf_rel args 0 .e .e t ht ?_
  rw [FR.at_e]
  unfold gd; rw [T.get_e]; rfl

theorem tmpsR_spec : ∀ (l : List ResultVar) (ts : List Nat), tmpsR l = some ts → l = ts.map ResultVar.tmp
  | [], ts, h => by cases h; rfl
  | r :: l, ts, h => by
    have e : tmpsR (r :: l) = ResultVar.rec (fun t => Option.rec none (fun l => some (t :: l)) (tmpsR l)) (fun _ _ => none) r := rfl
    rw [e] at h
    cases r with
    | cell a t => cases h
    | tmp t =>
      cases hl : tmpsR l with
      | none => rw [hl] at h; cases h
      | some m =>
        rw [hl] at h
        simp only [Option.some.injEq] at h
        subst h
        rw [tmpsR_spec l m hl]; rfl
theorem resultsA_tmps (h : Hp) (f : T AVal) : ∀ ts : List Nat, resultsA P h f (ts.map ResultVar.tmp) = some (ts.map (gd f))
  | [] => rfl
  | t :: ts => by simp [resultsA, resultsA_tmps h f ts, resultA]; rfl
theorem evV_eq (l : List Nat) (f : T AVal) (fr : FR) (h : ∀ t ∈ l, fr.at t = V.of (gd f t)) : evV (l.map (xSlot 0)) fr = l.map (gd f) := by
  induction l with
  | nil => rfl
  | cons t l ih =>
    have e : evV ((t :: l).map (xSlot 0)) fr = ((xSlot 0 t).ev fr env0).v :: evV (l.map (xSlot 0)) fr := rfl
    rw [e, ih fun s hs => h s (List.mem_cons_of_mem _ hs)]
    have : (xSlot 0 t).ev fr env0 = V.of (gd f t) := h t (List.mem_cons_self ..)
    rw [this, V.of_v]; rfl
theorem resultsA_congr (h : Hp) {f f0 : T AVal} : ∀ l : List ResultVar, (∀ t ∈ slotsV l, gd f t = gd f0 t) → resultsA P h f l = resultsA P h f0 l
  | [], _ => rfl
  | r :: l, hs => by
    have h1 : resultA P h f r = resultA P h f0 r := by
      cases r with
      | tmp t =>
        have e : gd f t = gd f0 t := hs t (List.mem_cons_self ..)
        show some (gd f t) = some (gd f0 t)
        rw [e]
      | cell a t =>
        have e : gd f a = gd f0 a := hs a (List.mem_cons_self ..)
        show loadA P h t (gd f a) = loadA P h t (gd f0 a)
        rw [e]
    have h2 := resultsA_congr h l fun t ht => hs t (List.mem_cons_of_mem _ ht)
    simp only [resultsA, h1, h2]

/-- How the function ends, in the elder evaluator's words. -/
theorem call_end {f : FuncId} {fn : Func} {c : Code} {args : List AVal} {h h' : Hp} {M : Nat} {ex : Ex} {f' : T AVal} {vs : List AVal} (hh : H.call f args h = none) (hf : P.funcs[f]? = some fn) (hb : fn.body = some c) (hex : ex = .normal ∨ ex = .ret)
    (he : evalCode P G H M c (initFr args 0 .e) h = some ⟨ex, f', h'⟩) (hr : resultsA P h' f' fn.results.toList = some vs) : evalCall P G H (M + 1) f args h = some ((match vs with | [v] => v | vs => .tuple vs), h') := by
  unfold evalCall
  rw [hh]
  simp only [hf, hb, he]
  rcases hex with rfl | rfl <;> (simp only [hr]; rcases vs with _ | ⟨x, _ | ⟨y, ys⟩⟩ <;> rfl)

theorem compF_ok {locs : FuncId → Nat} {call : CallF} (hc : CallGood P G H call) {f : FuncId} {fn : Func} {c : Code} {loc : Nat} {args : List AVal} {h : Hp} {k : KV} (hh : H.call f args h = none) (hf : P.funcs[f]? = some fn) (hb : fn.body = some c) (ho : ordC P c = true)
    (hg : Good ((compF loc P fn c).run ⟨P, G, H, call⟩ args (frOf args 0 .e) h k)) :
    ∃ n v h', evalCall P G H n f args h = some (v, h') ∧ (compF loc P fn c).run ⟨P, G, H, call⟩ args (frOf args 0 .e) h k = k (V.of v) h' := by
  unfold compF at hg ⊢
  cases hcl : clear loc (slotsV fn.results.toList) with
  | false => simp only [hcl] at hg; exact (not_good _ hg).elim
  | true =>
    simp only [hcl] at hg ⊢
    have hcode := compC_ok P G H loc c ho
    -- the three ways to hand results back
    have main : ∀ (K : KS), Good ((compC loc P c).run ⟨P, G, H, call⟩ (frOf args 0 .e) h K (fun _ _ _ => .bad 44) K) →
        ∃ M ex f' h' fr', (ex = .normal ∨ ex = .ret) ∧ evalCode P G H M c (initFr args 0 .e) h = some ⟨ex, f', h'⟩ ∧ FrRel loc f' fr' ∧ (compC loc P c).run ⟨P, G, H, call⟩ (frOf args 0 .e) h K (fun _ _ _ => .bad 44) K = K fr' h' := by
      intro K hg
      obtain ⟨M, ex, f', h', fr', e1, e2, e3⟩ := hcode call hc _ _ h K (fun _ _ _ => .bad 44) K (frOf_start loc args) hg
      rw [e3] at hg
      cases ex with
      | normal => exact ⟨M, .normal, f', h', fr', .inl rfl, e1, e2, e3⟩
      | ret => exact ⟨M, .ret, f', h', fr', .inr rfl, e1, e2, e3⟩
      | exit id => exact (not_good _ hg).elim
      | goto l => exact (not_good _ hg).elim
    cases ht : tmpsR fn.results.toList with
    | some ts =>
      simp only [ht] at hg ⊢
      have hres := tmpsR_spec _ _ ht
      have hin : ∀ t ∈ ts, t ∈ slotsV fn.results.toList := by
        intro t h1; rw [hres]; unfold slotsV; rw [List.map_map]; exact List.mem_map.2 ⟨t, h1, rfl⟩
      have hat : ∀ {f' : T AVal} {fr' : FR}, FrRel loc f' fr' → ∀ t ∈ ts, fr'.at t = V.of (gd f' t) := fun hr t h1 => let ⟨q1, q2⟩ := clear_spec hcl (hin t h1); hr t q1 q2
      have many : Good ((dMany (compC loc P c) (ts.map (xSlot 0))).run ⟨P, G, H, call⟩ args (frOf args 0 .e) h k) → (∀ t, ts ≠ [t]) →
          ∃ n v h', evalCall P G H n f args h = some (v, h') ∧ (dMany (compC loc P c) (ts.map (xSlot 0))).run ⟨P, G, H, call⟩ args (frOf args 0 .e) h k = k (V.of v) h' := by
        intro hg hne
        obtain ⟨M, ex, f', h', fr', hex, e1, e2, e3⟩ := main (fun fr h => k (V.ofT (evV (ts.map (xSlot 0)) fr)) h) hg
        refine ⟨M + 1, .tuple (ts.map (gd f')), h', ?_, ?_⟩
        · have := call_end hh hf hb hex e1 (by rw [hres]; exact resultsA_tmps h' f' ts)
          rw [this]
          rcases ts with _ | ⟨x, _ | ⟨y, ys⟩⟩
          · rfl
          · exact absurd rfl (hne x)
          · rfl
        · have e3' : (dMany (compC loc P c) (ts.map (xSlot 0))).run ⟨P, G, H, call⟩ args (frOf args 0 .e) h k = _ := e3
          rw [e3', evV_eq ts f' fr' (hat e2)]; rfl
      rcases ts with _ | ⟨x, _ | ⟨y, ys⟩⟩
      · exact many hg (fun t h => by cases h)
      · obtain ⟨M, ex, f', h', fr', hex, e1, e2, e3⟩ := main (fun fr h => k ((xSlot 0 x).ev fr env0) h) hg
        refine ⟨M + 1, gd f' x, h', ?_, ?_⟩
        · exact call_end hh hf hb hex e1 (by rw [hres]; exact resultsA_tmps h' f' [x])
        · have e3' : (dOne (compC loc P c) (xSlot 0 x)).run ⟨P, G, H, call⟩ args (frOf args 0 .e) h k = k ((xSlot 0 x).ev fr' env0) h' := e3
          have hx : (xSlot 0 x).ev fr' env0 = V.of (gd f' x) := hat e2 x (List.mem_cons_self ..)
          rw [hx] at e3'; exact e3'
      · exact many hg (fun t h => by cases h)
    | none =>
      simp only [ht] at hg ⊢
      obtain ⟨M, ex, f', h', fr', hex, e1, e2, e3⟩ := main (fun fr h => resT fn.results.toList (slotsV fn.results.toList) ⟨P, G, H, call⟩ fr h k) hg
      have e3' : (dSlow (compC loc P c) fn.results.toList (slotsV fn.results.toList)).run ⟨P, G, H, call⟩ args (frOf args 0 .e) h k = resT fn.results.toList (slotsV fn.results.toList) ⟨P, G, H, call⟩ fr' h' k := e3
      rw [e3'] at hg ⊢
      have hcg : resultsA P h' (takeF (slotsV fn.results.toList) fr') fn.results.toList = resultsA P h' f' fn.results.toList := by
        refine resultsA_congr h' _ fun t h1 => ?_
        obtain ⟨q1, q2⟩ := clear_spec hcl h1
        rw [takeF_gd _ _ _ h1, e2 t q1 q2, V.of_v]
      unfold resT at hg ⊢
      simp only at hg ⊢
      rw [hcg] at hg ⊢
      cases hvs : resultsA P h' f' fn.results.toList with
      | none => rw [hvs] at hg; exact (not_good _ hg).elim
      | some vs =>
        rw [hvs] at hg
        refine ⟨M + 1, _, h', call_end hh hf hb hex e1 hvs, ?_⟩
        rcases vs with _ | ⟨x, _ | ⟨y, ys⟩⟩ <;> rfl

theorem ordP_spec {locs : FuncId → Nat} (h : ordP P locs = true) {f : FuncId} {fn : Func} {c : Code} (hf : P.funcs[f]? = some fn) (hb : fn.body = some c) (hl : hasB (locs f) 0 = true) : ordC P c = true := by
  unfold ordP at h
  have hm : (fn, f) ∈ P.funcs.toList.zipIdx := by
    rw [List.mem_zipIdx_iff_getElem?]
    rw [Array.getElem?_toList]; exact hf
  have := List.all_eq_true.1 h _ hm
  simp only [hb, hl] at this
  exact this

theorem runCall_ok {locs : FuncId → Nat} (hord : ordP P locs = true) : ∀ n, CallGood P G H (runCall P G H locs n)
  | 0 => fun f args h k hg => (not_good _ hg).elim
  | n + 1 => by
    intro f args h k hg
    have ih := runCall_ok hord n
    have e : runCall P G H locs (n + 1) f args (frOf args 0 .e) h k = Option.rec (motive := fun _ => CallF → FuncId → List AVal → FR → Hp → KV → Out)
      (fun call f args fr h k => (funD P locs f).run ⟨P, G, H, call⟩ args fr h k)
      (fun r _ _ _ _ _ k => Option.rec (motive := fun _ => KV → Out) (fun _ => .bad 48) (fun p k => k (V.of p.1) p.2) r k) (H.call f args h) (runCall P G H locs n) f args (frOf args 0 .e) h k := rfl
    rw [e] at hg ⊢
    cases hh : H.call f args h with
    | some r =>
      simp only [hh] at hg ⊢
      cases r with
      | none => exact (not_good _ hg).elim
      | some p =>
        refine ⟨1, p.1, p.2, ?_, rfl⟩
        unfold evalCall; rw [hh]
    | none =>
      simp only [hh] at hg ⊢
      unfold funD at hg ⊢
      rw [nthC_eq, Array.getElem?_toList] at hg ⊢
      cases hf : P.funcs[f]? with
      | none => simp only [hf] at hg; exact (not_good _ hg).elim
      | some fn =>
        simp only [hf] at hg ⊢
        cases hb : fn.body with
        | none =>
          simp only [hb] at hg ⊢
          cases hx : extOf fn with
          | none => simp only [hx] at hg; exact (not_good _ hg).elim
          | some x =>
            simp only [hx] at hg ⊢
            cases he : evalExt P x fn args h with
            | none =>
              have : (dExt x fn).run ⟨P, G, H, runCall P G H locs n⟩ args (frOf args 0 .e) h k = .bad 45 := by
                show (match evalExt P x fn args h with | some (v, h) => k (V.of v) h | none => .bad 45) = _
                rw [he]
              rw [this] at hg; exact (not_good _ hg).elim
            | some p =>
              refine ⟨1, p.1, p.2, ?_, ?_⟩
              · unfold evalCall; rw [hh]; simp only [hf, hb, hx, he]
              · show (match evalExt P x fn args h with | some (v, h) => k (V.of v) h | none => .bad 45) = _
                rw [he]
        | some c =>
          simp only [hb] at hg ⊢
          cases hl : hasB (locs f) 0 with
          | false => simp only [hl] at hg; exact (not_good _ hg).elim
          | true =>
            simp only [hl] at hg ⊢
            exact compF_ok (locs := locs) ih hh hf hb (ordP_spec hord hf hb hl) hg
/-- What the quick evaluator answers, the elder one answers. -/
theorem fast_eval {locs : FuncId → Nat} (hord : ordP P locs = true) {f : FuncId} {args : List AVal} {h h' : Hp} {v : AVal} (he : fast P G H locs f args h = .ok v h') : ∃ n, evalCall P G H n f args h = some (v, h') := by
  have hg : Good (fast P G H locs f args h) := by rw [he]; intro n e; cases e
  obtain ⟨n, v', h1, e1, e2⟩ := runCall_ok (P := P) (G := G) (H := H) hord 10000 f args h (fun v h => .ok v.v h) hg
  have e2' : fast P G H locs f args h = .ok (V.of v').v h1 := e2
  rw [he, V.of_v] at e2'
  cases e2'
  exact ⟨n, e1⟩
/-- The quick evaluator is sound. -/
theorem fast_sound {E : Env} {locs : FuncId → Nat} (hmix : P.follows .mixedOrders = true) (hfit : fitsP P = true) (hord : ordP P locs = true) (hhook : HookOk P E H) {f : FuncId} {fn : Func} (hf : P.funcs[f]? = some fn) (hb : fn.body.isSome = true)
    {args : List AVal} {h : Hp} {v : AVal} {h' : Hp} (he : fast P E.G H locs f args h = .ok v h') : CallOk P E f args h v h' := by
  obtain ⟨n, hn⟩ := fast_eval hord he
  exact calls_sound hmix hfit hhook hf hb hn
end
end
end Go.Ae
