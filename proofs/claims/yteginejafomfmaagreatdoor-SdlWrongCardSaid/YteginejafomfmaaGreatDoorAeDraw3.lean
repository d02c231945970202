/- A region's tail: stores that no order holds apart. -/
import Derived.Test.YteginejafomfmaaGreatDoorAeDraw2
set_option linter.unusedVariables false
set_option linter.unusedSimpArgs false
set_option maxHeartbeats 1000000
namespace Go.Ae
open Go

section
variable {P : Program}
theorem storeA_local {h h' : Hp} {t : TypeId} {b off : Nat} {v : AVal} (hs : storeA P h t (.ptr b off) v = some h') :
    ∃ x', ((∀ q, h'.get q = if b = q then some x' else h.get q) ∧ h'.next = h.next) ∧
      ∀ g : Hp, g.get b = h.get b → ∃ g', storeA P g t (.ptr b off) v = some g' ∧ (∀ q, g'.get q = if b = q then some x' else g.get q) ∧ g'.next = g.next := by
  simp only [storeA] at hs
  split at hs
  · rename_i e ext fz cl n hb hn
    cases hc : (!v.isTuple && Nat.beq v.cells.length n && !Nat.beq n 0 && Nat.ble fz off && known cl n off) with
    | false => rw [hc] at hs; cases hs
    | true =>
      rw [hc, cond_true] at hs
      simp only [Option.some.injEq] at hs
      subst hs
      refine ⟨_, ⟨fun q => Hp.get_put _ _ _ _, rfl⟩, fun g hg => ⟨g.put b (.cells e (Nat.max ext (off + n)) fz (fillT v.cells off cl)), ?_, fun q => Hp.get_put _ _ _ _, rfl⟩⟩
      simp only [storeA, hg, hb, hn, hc, cond_true]
  · cases hs

/-- One operation of the tail. -/
inductive StepT (P : Program) (ops : List Oper) (h : Hp) (o : Oper) (fr : T AVal) : AVal → Option (Nat × Blk) → Prop where
  | skip (hw : wantedA ops fr o = false) : StepT P ops h o fr .undef none
  | pure (hw : wantedA ops fr o = true) {v : AVal} (hv : pureOp P fr o = some v) : StepT P ops h o fr v none
  | store (hw : wantedA ops fr o = true) {t : TypeId} {a x : Operand} (ho : o.op = .store t a x) {b off : Nat} {v : AVal} (ha : opdA fr a = some (.ptr b off)) (hx : opdA fr x = some v) {x' : Blk}
      (hs : ∀ g : Hp, g.get b = h.get b → ∃ g', storeA P g t (.ptr b off) v = some g' ∧ (∀ q, g'.get q = if b = q then some x' else g.get q) ∧ g'.next = g.next) : StepT P ops h o fr .undef (some (b, x'))

theorem StepT.other {ops : List Oper} {h h1 : Hp} {o : Oper} {fr : T AVal} {v : AVal} {t : Option (Nat × Blk)} (s : StepT P ops h1 o fr v t) (he : ∀ b x, t = some (b, x) → h1.get b = h.get b) : StepT P ops h o fr v t := by
  cases s with
  | skip hw => exact .skip hw
  | pure hw hv => exact .pure hw hv
  | store hw ho ha hx hs => exact .store hw ho ha hx fun g hg => hs g (by rw [hg, he _ _ rfl])

def TailTr (P : Program) (ops : List Oper) (l : List Oper) (i : Nat) (fr : T AVal) (h : Hp) (met : List Nat) (frF : T AVal) (hF : Hp) : Prop :=
    ∃ (cf : Nat → T AVal) (res : Nat → AVal) (tgt : Nat → Option (Nat × Blk)), cf i = fr ∧ cf (i + l.length) = frF ∧ hF.next = h.next ∧
      (∀ k o, l[k]? = some o → cf (i + k + 1) = putA (cf (i + k)) o.dst (res (i + k)) ∧ StepT P ops h o (cf (i + k)) (res (i + k)) (tgt (i + k))) ∧
      (∀ k b x, k < l.length → tgt (i + k) = some (b, x) → met.contains b = false ∧ hF.get b = some x) ∧
      (∀ q, (∀ k x, k < l.length → tgt (i + k) ≠ some (q, x)) → hF.get q = h.get q) ∧
      (∀ k k' b x x', k < l.length → k' < l.length → tgt (i + k) = some (b, x) → tgt (i + k') = some (b, x') → k = k')

theorem tail_trace {ops : List Oper} : ∀ (l : List Oper) (i : Nat) (fr : T AVal) (h : Hp) (met : List Nat) (frF : T AVal) (hF : Hp), evalTail P ops l fr h met = some (frF, hF) → TailTr P ops l i fr h met frF hF
  | [], i, fr, h, met, frF, hF, he => by
    simp only [evalTail, Option.some.injEq, Prod.mk.injEq] at he
    obtain ⟨rfl, rfl⟩ := he
    exact ⟨fun _ => fr, fun _ => .undef, fun _ => none, rfl, rfl, rfl, fun k o h => by simp at h, fun k b x h => by simp at h, fun q _ => rfl, fun k k' b x x' h => by simp at h⟩
  | o :: l, i, fr, h, met, frF, hF, he => by
    have go : ∀ (v : AVal) (t : Option (Nat × Blk)) (h1 : Hp) (met1 : List Nat), StepT P ops h o fr v t → h1.next = h.next → (∀ q, h1.get q = match t with | some (b, x) => if b = q then some x else h.get q | none => h.get q) →
        (∀ b x, t = some (b, x) → met.contains b = false ∧ met1.contains b = true) → (∀ b, met1.contains b = false → met.contains b = false) →
        evalTail P ops l (putA fr o.dst v) h1 met1 = some (frF, hF) → TailTr P ops (o :: l) i fr h met frF hF := by
      intro v t h1 met1 hst hn1 hg1 hm hm1 hev
      obtain ⟨cf, res, tgt, e1, e2, e3, e4, e5, e6, e7⟩ := tail_trace l (i + 1) _ h1 met1 frF hF hev
      have hsame : ∀ k b x, k < l.length → tgt (i + 1 + k) = some (b, x) → h1.get b = h.get b := fun k b x hk ht => by
        rw [hg1]
        cases t with
        | none => rfl
        | some bx =>
          obtain ⟨b0, x0⟩ := bx
          simp only
          have h1 := (hm b0 x0 rfl).2
          have h2 := (e5 k b x hk ht).1
          rw [if_neg (fun e => by subst e; rw [h1] at h2; cases h2)]
      refine ⟨fun j => if j = i then fr else cf j, fun j => if j = i then v else res j, fun j => if j = i then t else tgt j, by simp, ?_, by rw [e3, hn1], ?_, ?_, ?_, ?_⟩
      · have : i + (o :: l).length = i + 1 + l.length := by simp; omega
        rw [this]; simp only; rw [if_neg (by omega)]; exact e2
      · intro k o' hk
        cases k with
        | zero =>
          simp only [List.getElem?_cons_zero, Option.some.injEq] at hk
          subst hk
          simp only [Nat.add_zero, if_pos]
          rw [if_neg (by omega)]
          exact ⟨e1, hst⟩
        | succ k =>
          have hk' : l[k]? = some o' := by simpa using hk
          have hlt : k < l.length := (List.getElem?_eq_some_iff.1 hk').1
          have := e4 k o' hk'
          have e : i + 1 + k = i + (k + 1) := by omega
          rw [e] at this
          simp only
          rw [if_neg (by omega), if_neg (by omega), if_neg (by omega), if_neg (by omega)]
          exact ⟨this.1, this.2.other fun b x ht => hsame k b x hlt (by rw [e]; exact ht)⟩
      · intro k b x hk ht
        cases k with
        | zero =>
          simp only [Nat.add_zero, if_pos] at ht
          refine ⟨(hm b x ht).1, ?_⟩
          rw [e6 b fun k y hk' hy => ?_]
          · rw [hg1, ht]; simp
          · have h1 := (e5 k b y hk' hy).1
            rw [(hm b x ht).2] at h1; cases h1
        | succ k =>
          simp only at ht
          rw [if_neg (by omega)] at ht
          have e : i + 1 + k = i + (k + 1) := by omega
          rw [← e] at ht
          have := e5 k b x (by simpa using hk) ht
          exact ⟨hm1 b this.1, this.2⟩
      · intro q hq
        rw [e6 q fun k y hk' hy => ?_]
        · rw [hg1]
          cases t with
          | none => rfl
          | some bx =>
            obtain ⟨b0, x0⟩ := bx
            simp only
            rw [if_neg]
            intro e
            subst e
            exact hq 0 x0 (by simp) (by simp)
        · have := hq (k + 1) y (by simpa using hk')
          simp only at this
          rw [if_neg (by omega)] at this
          have e : i + 1 + k = i + (k + 1) := by omega
          rw [← e] at this
          exact this hy
      · intro k k' b x x' hk hk' ht ht'
        have e : ∀ k, i + (k + 1) = i + 1 + k := fun k => by omega
        cases k with
        | zero =>
          cases k' with
          | zero => rfl
          | succ k' =>
            simp only [Nat.add_zero, if_pos] at ht
            simp only at ht'
            rw [if_neg (by omega), e] at ht'
            have h1 := (e5 k' b x' (by simpa using hk') ht').1
            rw [(hm b x ht).2] at h1; cases h1
        | succ k =>
          simp only at ht
          rw [if_neg (by omega), e] at ht
          cases k' with
          | zero =>
            simp only [Nat.add_zero, if_pos] at ht'
            have h1 := (e5 k b x (by simpa using hk) ht).1
            rw [(hm b x' ht').2] at h1; cases h1
          | succ k' =>
            simp only at ht'
            rw [if_neg (by omega), e] at ht'
            rw [e7 k k' b x x' (by simpa using hk) (by simpa using hk') ht ht']
    unfold evalTail at he
    cases hw : wantedA ops fr o with
    | false =>
      rw [hw, cond_false] at he
      exact go _ none h met (.skip hw) rfl (fun q => rfl) (fun b x e => by cases e) (fun b hb => hb) he
    | true =>
      rw [hw, cond_true] at he
      split at he
      · rename_i t a x ho
        split at he
        · rename_i b off v ha hx
          cases hm : met.contains b with
          | true => rw [hm] at he; cases he
          | false =>
            rw [hm, cond_false] at he
            split at he
            · rename_i h1 hs
              obtain ⟨x', ⟨hx1, hx2⟩, hx3⟩ := storeA_local hs
              refine go _ (some (b, x')) h1 (b :: met) (.store hw ho ha hx hx3) hx2 (fun q => hx1 q) (fun b' y e => ?_) (fun b' hb' => ?_) he
              · simp only [Option.some.injEq, Prod.mk.injEq] at e
                obtain ⟨rfl, rfl⟩ := e
                exact ⟨hm, by simp⟩
              · simp only [List.contains_cons, Bool.or_eq_false_iff] at hb'; exact hb'.2
            · cases he
        · cases he
      · split at he
        · rename_i v hv
          exact go _ none h met (.pure hw hv) rfl (fun q => rfl) (fun b x e => by cases e) (fun b hb => hb) he
        · cases he
end
end Go.Ae
