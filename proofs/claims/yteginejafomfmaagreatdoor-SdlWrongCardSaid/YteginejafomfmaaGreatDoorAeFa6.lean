/- A region whose order stands, whole. No condition. -/
import Derived.Test.YteginejafomfmaaGreatDoorAeFa5
set_option linter.unusedVariables false
set_option linter.unusedSimpArgs false
namespace Go.Ae
open Go
noncomputable section

section
variable {P : Program} {G : Nat → Option AVal} {H : Hook} {loc : Nat}

theorem ops_cons {all l : List Oper} {o : Oper} {f : T AVal} {h h1 : Hp} {v : AVal} {m N : Nat} {r : T AVal × Hp} (hw : wantedA all f o = true) (he : evalOp P G H m f h o = some (v, h1)) (hr : evalOps P G H N all l (putA f o.dst v) h1 = some r) :
    ∃ M, evalOps P G H M all (o :: l) f h = some r := by
  refine ⟨Nat.max m N + 1, ?_⟩
  unfold evalOps
  rw [hw, cond_true, (mono P G H (Nat.le_max_left m N)).op he]
  exact (mono P G H (Nat.le_max_right m N)).ops hr
theorem ops_skip {all l : List Oper} {o : Oper} {f : T AVal} {h : Hp} {N : Nat} {r : T AVal × Hp} (hw : wantedA all f o = false) (hr : evalOps P G H N all l (putA f o.dst .undef) h = some r) : ∃ M, evalOps P G H M all (o :: l) f h = some r := by
  refine ⟨N + 1, ?_⟩
  unfold evalOps
  rw [hw, cond_false]; exact hr

/-- What a region's closure is to do. -/
def OOk (P : Program) (G : Nat → Option AVal) (H : Hook) (loc n : Nat) (cs : CS) (all : List Oper) (fin : FinT) (l : List Oper) (r : OF n) : Prop :=
  ∀ call, CallGood P G H call → ∀ f fr L h k, Inv loc n cs f fr L → Good (r.run ⟨P, G, H, call⟩ fr L h k) →
    ∃ N f' h' n' cs' fr' L', evalOps P G H N all l f h = some (f', h') ∧ Inv loc n' cs' f' fr' L' ∧ r.run ⟨P, G, H, call⟩ fr L h k = (fin n' cs').run ⟨P, G, H, call⟩ fr' L' h' k
/-- Of one operation and what is behind it: from a memory and frames on. -/
def After (P : Program) (G : Nat → Option AVal) (H : Hook) (loc : Nat) (all : List Oper) (fin : FinT) (call : CallF) (l : List Oper) (f : T AVal) (h : Hp) (k : KF) (r : Out) : Prop :=
  ∃ N f' h' n' cs' fr' L', evalOps P G H N all l f h = some (f', h') ∧ Inv loc n' cs' f' fr' L' ∧ r = (fin n' cs').run ⟨P, G, H, call⟩ fr' L' h' k

variable {n : Nat} {cs : CS} {all l : List Oper} {o : Oper} {fin : FinT} {ih : FinT}
theorem After.cons {call : CallF} {f : T AVal} {h h1 : Hp} {v : AVal} {m : Nat} {k : KF} {r : Out} (hw : wantedA all f o = true) (he : evalOp P G H m f h o = some (v, h1)) (ha : After P G H loc all fin call l (putA f o.dst v) h1 k r) :
    After P G H loc all fin call (o :: l) f h k r := by
  obtain ⟨N, f', h', n', cs', fr', L', h1, h2, h3⟩ := ha
  obtain ⟨M, hM⟩ := ops_cons hw he h1
  exact ⟨M, f', h', n', cs', fr', L', hM, h2, h3⟩
theorem After.skip {call : CallF} {f : T AVal} {h : Hp} {k : KF} {r : Out} (hw : wantedA all f o = false) (ha : After P G H loc all fin call l (putA f o.dst .undef) h k r) : After P G H loc all fin call (o :: l) f h k r := by
  obtain ⟨N, f', h', n', cs', fr', L', h1, h2, h3⟩ := ha
  obtain ⟨M, hM⟩ := ops_skip hw h1
  exact ⟨M, f', h', n', cs', fr', L', hM, h2, h3⟩

/-- An operation under a guard, or under none: the closure's two ways. -/
theorem step_guarded {g : Option Gd} (hW : Wants all o g) {call : CallF} (hc : CallGood P G H call) {f : T AVal} {fr : FR} {L : EnvT n} {h : Hp} {k : KF} (inv : Inv loc n cs f fr L)
    (A : JF n → OF n) (B : XF n → Bool → JF n → OF n) (w : Nat) {bad : OF n} (hbad : bad = oBad w)
    (K1 : V → Hp → Out) (K2 : Out) (hA : ∀ j : JF n, (A j).run ⟨P, G, H, call⟩ fr L h k = j.run ⟨P, G, H, call⟩ fr L h K1)
    (hB : ∀ (x : XF n) (wt : Bool) (j : JF n), (B x wt j).run ⟨P, G, H, call⟩ fr L h k = gate (x.ev fr L) wt (j.run ⟨P, G, H, call⟩ fr L h K1) K2)
    {j : JF n} (hj : JOk P G H loc n cs (gsOf g) o j) {r : OF n}
    (hr : r = match g with | none => A j | some (t, wt) => res loc n cs [] (.tmp t) bad fun x => B x wt j)
    (hg : Good (r.run ⟨P, G, H, call⟩ fr L h k))
    (h1 : ∀ m v h', wantedA all f o = true → (∀ u, g = some u → holds f u) → evalOp P G H m f h o = some (v, h') → Good (K1 (V.of v) h') → After P G H loc all fin call l (putA f o.dst v) h' k (K1 (V.of v) h'))
    (h2 : wantedA all f o = false → (∀ u, g = some u → ¬ holds f u) → (∃ u, g = some u) → Good K2 → After P G H loc all fin call l (putA f o.dst .undef) h k K2) :
    After P G H loc all fin call (o :: l) f h k (r.run ⟨P, G, H, call⟩ fr L h k) := by
  subst hr
  cases g with
  | none =>
    simp only at hg ⊢
    rw [hA] at hg ⊢
    obtain ⟨m, v, h', he, hrun⟩ := hj call hc f fr L h K1 inv (fun u hu => by cases hu) hg
    rw [hrun] at hg ⊢
    exact (h1 m v h' (hW f) (fun u hu => by cases hu) he hg).cons (hW f) he
  | some u =>
    obtain ⟨t, wt⟩ := u
    simp only at hg ⊢
    rcases res_cases (loc := loc) (cs := cs) (gs := []) (.tmp t) bad (fun x => B x wt j) with hb | ⟨x, hx, hb⟩
    · rw [hb, hbad] at hg; exact (not_good _ hg).elim
    · rw [hb] at hg ⊢
      rw [hB] at hg ⊢
      obtain ⟨a, ha, hxe⟩ := hx f fr L inv (fun u hu => by cases hu)
      rw [opdA_tmp] at ha
      simp only [Option.some.injEq] at ha
      rw [hxe] at hg ⊢
      by_cases hh : a = .bool wt
      · rw [gate_pos hh] at hg ⊢
        have hhold : holds f (t, wt) := ha.trans hh
        have hw : wantedA all f o = true := (hW f).2 hhold
        obtain ⟨m, v, h', he, hrun⟩ := hj call hc f fr L h K1 inv (fun u hu => by rcases List.mem_singleton.1 hu with rfl; exact hhold) hg
        rw [hrun] at hg ⊢
        exact (h1 m v h' hw (fun u hu => by cases hu; exact hhold) he hg).cons hw he
      · rw [gate_neg hh] at hg ⊢
        have hnh : ¬ holds f (t, wt) := fun h => hh (ha.symm.trans h)
        have hw : wantedA all f o = false := by
          cases hq : wantedA all f o with
          | false => rfl
          | true => exact absurd ((hW f).1 hq) hnh
        exact (h2 hw (fun u hu => by cases hu; exact hnh) ⟨_, rfl⟩ hg).skip hw

theorem or_false' {a b : Bool} (h : or a b = false) : a = false ∧ b = false := by cases a <;> cases b <;> first | exact ⟨rfl, rfl⟩ | cases h
theorem compL_ok (P : Program) (G : Nat → Option AVal) (H : Hook) (loc : Nat) (all : List Oper) (fin : FinT) : ∀ (l : List Oper) (n : Nat) (cs : CS), OOk P G H loc n cs all fin l (compL loc P all fin l n cs)
  | [], n, cs => fun call hc f fr L h k inv hg => ⟨1, f, h, n, cs, fr, L, by simp [evalOps], inv, rfl⟩
  | o :: l, n, cs => by
    intro call hc f fr L h k inv hg
    have ih := compL_ok P G H loc all fin l
    have e : compL loc P all fin (o :: l) n cs = guardK all o (oBad 95) fun g => match o.dst with
      | none => stepE loc n cs g (compO o.op n loc P cs (gsOf g) o).j (compL loc P all fin l)
      | some d => stepD loc n cs g (compO o.op n loc P cs (gsOf g) o) d (compL loc P all fin l) := rfl
    rw [e] at hg ⊢
    rcases guardK_cases (all := all) (o := o) (bad := (oBad 95 : OF n)) (k := fun g => match o.dst with
      | none => stepE loc n cs g (compO o.op n loc P cs (gsOf g) o).j (compL loc P all fin l)
      | some d => stepD loc n cs g (compO o.op n loc P cs (gsOf g) o) d (compL loc P all fin l)) with hb | ⟨g, hW, hb⟩
    · rw [hb] at hg; exact (not_good _ hg).elim
    · rw [hb] at hg ⊢
      have hj : JOk P G H loc n cs (gsOf g) o (compO o.op n loc P cs (gsOf g) o).j := compO_ok
      cases hdst : o.dst with
      | none =>
        simp only [hdst] at hg ⊢
        refine step_guarded hW hc inv (fun j => oEff j (compL loc P all fin l n cs)) (fun x w j => oGEff x w j (compL loc P all fin l n cs)) 90 rfl
          (fun _ h => (compL loc P all fin l n cs).run ⟨P, G, H, call⟩ fr L h k) ((compL loc P all fin l n cs).run ⟨P, G, H, call⟩ fr L h k) (fun j => rfl) (fun x w j => rfl) hj (by unfold stepE; cases g <;> rfl) hg ?_ ?_
        · intro m v h' _ _ _ hg'
          rw [hdst]
          exact ih n cs call hc f fr L h' k inv hg'
        · intro _ _ _ hg'
          rw [hdst]
          exact ih n cs call hc f fr L h k inv hg'
      | some d =>
        simp only [hdst] at hg ⊢
        unfold stepD at hg ⊢
        cases hcl : or (hasB cs.gm d) (clash g d) with
        | true => simp only [hcl] at hg; exact (not_good _ hg).elim
        | false =>
          simp only [hcl] at hg ⊢
          obtain ⟨hgm, hcl⟩ := or_false' hcl
          have hne : ∀ u, g = some u → u.1 ≠ d := fun u hu => by subst hu; exact nat_beq_false hcl
          cases hld : hasB loc d with
          | false =>
            simp only [hld] at hg ⊢
            cases hlt : Nat.blt d 4096 with
            | false => simp only [hlt] at hg; exact (not_good _ hg).elim
            | true =>
              simp only [hlt] at hg ⊢
              refine step_guarded hW hc inv (fun j => oSet j (spSlot d) (compL loc P all fin l n ⟨cs.env, addB cs.dead d, cs.gm⟩)) (fun x w j => oGSet x w j (spSlot d) (compL loc P all fin l n ⟨cs.env, addB cs.dead d, cs.gm⟩)) 92 rfl
                (fun v h => (compL loc P all fin l n ⟨cs.env, addB cs.dead d, cs.gm⟩).run ⟨P, G, H, call⟩ ((spSlot d).put v fr) L h k)
                ((compL loc P all fin l n ⟨cs.env, addB cs.dead d, cs.gm⟩).run ⟨P, G, H, call⟩ ((spSlot d).put .undef fr) L h k) (fun j => rfl) (fun x w j => rfl) hj (by unfold stepS; cases g <;> rfl) hg ?_ ?_
              · intro m v h' _ _ _ hg'
                rw [hdst]
                exact ih n _ call hc _ _ L h' k (inv.setFr hld (blt_true hlt) hgm v) hg'
              · intro _ _ _ hg'
                rw [hdst]
                exact ih n _ call hc _ _ L h k (inv.setFr hld (blt_true hlt) hgm .undef) hg'
          | true =>
            simp only [hld] at hg ⊢
            have push : Good ((stepP loc n cs g (compO o.op n loc P cs (gsOf g) o).j d (compL loc P all fin l)).run ⟨P, G, H, call⟩ fr L h k) →
                After P G H loc all fin call (o :: l) f h k ((stepP loc n cs g (compO o.op n loc P cs (gsOf g) o).j d (compL loc P all fin l)).run ⟨P, G, H, call⟩ fr L h k) := by
              intro hg
              -- the knowledge behind the push
              have invP : ∀ v, (∀ u, g = some u → ¬ holds f u → v = .undef) → Inv loc (n + 1) ⟨cs.env.set d ⟨none, g, .l n⟩, cs.dead, mask cs.gm g⟩ (f.set d v) fr (PairT.mk (α := EnvT n) (V.of v) L) := by
                intro v hv
                refine (inv.shift (V.of v)).setLoc hld hgm (fun m hm => by cases hm; exact Nat.lt_succ_self n) (fun q hq => by cases hq) (fun _ _ => ?_) (fun u _ hu hn => hv u hu hn) (fun u hu => ?_) (fun t ht => hasB_mask.2 (.inl ht)) (fun u hu => ?_)
                · show ((envL (n + 1) (PairT.mk (α := EnvT n) (V.of v) L))[n + 1 - (n + 1)]?).getD V.undef = V.of v
                  rw [Nat.sub_self]; rfl
                · rcases hu with hu | hu
                  · cases hu
                  · exact hne u hu
                · rcases hu with hu | hu
                  · cases hu
                  · exact hasB_mask.2 (.inr ⟨u, hu, rfl⟩)
              refine step_guarded hW hc inv (fun j => oPush j (compL loc P all fin l (Nat.succ n) ⟨cs.env.set d ⟨none, g, .l n⟩, cs.dead, mask cs.gm g⟩)) (fun x w j => oGPush x w j (compL loc P all fin l (Nat.succ n) ⟨cs.env.set d ⟨none, g, .l n⟩, cs.dead, mask cs.gm g⟩)) 91 rfl
                (fun v h => (compL loc P all fin l (Nat.succ n) ⟨cs.env.set d ⟨none, g, .l n⟩, cs.dead, mask cs.gm g⟩).run ⟨P, G, H, call⟩ fr (PairT.mk v L) h k)
                ((compL loc P all fin l (Nat.succ n) ⟨cs.env.set d ⟨none, g, .l n⟩, cs.dead, mask cs.gm g⟩).run ⟨P, G, H, call⟩ fr (PairT.mk .undef L) h k) (fun j => rfl) (fun x w j => rfl) hj (by unfold stepP; cases g <;> rfl) hg ?_ ?_
              · intro m v h' _ hh _ hg'
                rw [hdst]
                exact ih _ _ call hc _ _ _ h' k (invP v fun u hu hn => absurd (hh u hu) hn) hg'
              · intro _ hh _ hg'
                rw [hdst]
                exact ih _ _ call hc _ _ _ h k (invP .undef fun u hu hn => rfl) hg'
            cases hmv : (compO o.op n loc P cs (gsOf g) o).mv with
            | none => simp only [hmv] at hg ⊢; exact push hg
            | some x =>
              simp only [hmv] at hg ⊢
              cases hal : alias loc cs g x with
              | none => simp only [hal] at hg ⊢; exact push hg
              | some e' =>
                simp only [hal] at hg ⊢
                have hop := compO_mv hmv
                obtain ⟨⟨v0, hv0⟩, a1, a1', a2, a3⟩ := alias_ok hal inv
                have invA : ∀ v, ((∀ u, g = some u → holds f u) → opdA f x = some v) → (∀ u, g = some u → ¬ holds f u → v = .undef) → Inv loc n ⟨cs.env.set d e', cs.dead, mask (mask cs.gm e'.cond) e'.un⟩ (f.set d v) fr L := by
                  intro v h1 h2
                  obtain ⟨b1, b2⟩ := a3 v h1 h2
                  refine inv.setLoc hld hgm a1 a1' b1 b2 (fun u hu => ?_) (fun t ht => hasB_mask.2 (.inl (hasB_mask.2 (.inl ht)))) (fun u hu => ?_)
                  · rcases a2 u hu with hu' | hu'
                    · exact hne u hu'
                    · intro e; rw [e, hgm] at hu'; cases hu'
                  · rcases hu with hu | hu
                    · exact hasB_mask.2 (.inl (hasB_mask.2 (.inr ⟨u, hu, rfl⟩)))
                    · exact hasB_mask.2 (.inr ⟨u, hu, rfl⟩)
                cases hw : wantedA all f o with
                | true =>
                  have hh : ∀ u, g = some u → holds f u := fun u hu => by subst hu; exact (hW f).1 hw
                  have he : evalOp P G H 1 f h o = some (v0, h) := by
                    refine evalOp_pure ?_ ?_
                    · unfold kindOf; rcases hop with ho | ho <;> rw [ho]
                    · unfold pureOp; rcases hop with ho | ho <;> (rw [ho]; exact hv0)
                  refine After.cons (v := v0) hw he ?_
                  rw [hdst]
                  exact ih n _ call hc _ fr L h k (invA v0 (fun _ => hv0) fun u hu hn => absurd (hh u hu) hn) hg
                | false =>
                  have hh : ∃ u, g = some u ∧ ¬ holds f u := by
                    cases g with
                    | none => rw [hW f] at hw; cases hw
                    | some u => exact ⟨u, rfl, fun h => by rw [(hW f).2 h] at hw; cases hw⟩
                  refine After.skip hw ?_
                  rw [hdst]
                  exact ih n _ call hc _ fr L h k (invA .undef (fun h => absurd (h hh.choose hh.choose_spec.1) hh.choose_spec.2) fun _ _ _ => rfl) hg
end
end
end Go.Ae
