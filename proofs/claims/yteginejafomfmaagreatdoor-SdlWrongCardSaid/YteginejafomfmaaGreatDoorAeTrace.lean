/- The text's order of a region, as a row of states. -/
import Derived.Test.YteginejafomfmaaGreatDoorAeCongr
set_option linter.unusedVariables false
set_option linter.unusedSimpArgs false
set_option maxHeartbeats 1000000
namespace Go.Ae
open Go

section
variable (P : Program) (G : Nat → Option AVal) (H : Hook) (nmax : Nat) (ops : List Oper) (p : Plan)

inductive StepD (i : Nat) (o : Oper) (s : DS) : DS → AVal → Option Blk → Prop where
  | skip (hw : wantedA ops s.fr o = false) : StepD i o s ⟨putA s.fr o.dst .undef, s.h, s.pend, if isEff P o = true then s.hs ++ [s.h] else s.hs, s.rds⟩ .undef none
  | pure (hw : wantedA ops s.fr o = true) (hk : kindOf P o = .pure) {v : AVal} (hv : pureOp P s.fr o = some v) : StepD i o s ⟨putA s.fr o.dst v, s.h, s.pend, s.hs, s.rds⟩ v none
  | read (hw : wantedA ops s.fr o = true) (hk : kindOf P o = .read) {v : AVal} (hv : readOp P G s.fr s.h o = some v) :
      StepD i o s ⟨putA s.fr o.dst v, s.h, s.pend, s.hs, ⟨o, s.fr, v, (p.ws.getD i (0, 0)).1, (p.ws.getD i (0, 0)).2⟩ :: s.rds⟩ v none
  | alloc (hw : wantedA ops s.fr o = true) (hk : kindOf P o = .alloc) {v : AVal} {b : Blk} (hv : allocOp P s.fr (p.base + i) o = some (v, b)) :
      StepD i o s ⟨putA s.fr o.dst v, s.h, (i, b) :: s.pend, s.hs, s.rds⟩ v (some b)
  | eff (hw : wantedA ops s.fr o = true) (hk : kindOf P o = .eff) {v : AVal} {h' : Hp} {k : Nat} (hlt : k < nmax) (hv : evalOp P G H k s.fr (publish p.base (p.pre.getD i 0) s.pend s.h) o = some (v, h')) :
      StepD i o s ⟨putA s.fr o.dst v, h', s.pend.filter fun x => !(p.pre.getD i 0).testBit x.1, s.hs ++ [s.h], s.rds⟩ v none

variable {P G H nmax ops p}
theorem trace : ∀ (n : Nat), n ≤ nmax → ∀ (l : List Oper) (i : Nat) (s sF : DS), evalDraw P G H n ops l p i s = some sF →
    ∃ (st : Nat → DS) (res : Nat → AVal) (blk : Nat → Option Blk), st i = s ∧ st (i + l.length) = sF ∧
      ∀ k o, l[k]? = some o → StepD P G H nmax ops p (i + k) o (st (i + k)) (st (i + k + 1)) (res (i + k)) (blk (i + k))
  | 0, _, l, i, s, sF, he => by simp [evalDraw] at he
  | n + 1, hn, [], i, s, sF, he => by
    simp only [evalDraw, Option.some.injEq] at he
    subst he
    exact ⟨fun _ => s, fun _ => .undef, fun _ => none, rfl, rfl, fun k o h => by simp at h⟩
  | n + 1, hn, o :: l, i, s, sF, he => by
    have go : ∀ (s1 : DS) (v : AVal) (ob : Option Blk), StepD P G H nmax ops p i o s s1 v ob → evalDraw P G H n ops l p (i + 1) s1 = some sF →
        ∃ (st : Nat → DS) (res : Nat → AVal) (blk : Nat → Option Blk), st i = s ∧ st (i + (o :: l).length) = sF ∧
          ∀ k o', (o :: l)[k]? = some o' → StepD P G H nmax ops p (i + k) o' (st (i + k)) (st (i + k + 1)) (res (i + k)) (blk (i + k)) := by
      intro s1 v ob hstep hev
      obtain ⟨st, res, blk, h1, h2, h3⟩ := trace n (by omega) l (i + 1) s1 sF hev
      refine ⟨fun j => if j = i then s else st j, fun j => if j = i then v else res j, fun j => if j = i then ob else blk j, by simp, ?_, ?_⟩
      · have : i + (o :: l).length = i + 1 + l.length := by simp; omega
        rw [this]
        simp only
        rw [if_neg (by omega)]; exact h2
      · intro k o' hk
        cases k with
        | zero =>
          simp only [List.getElem?_cons_zero, Option.some.injEq] at hk
          subst hk
          simp only [Nat.add_zero, if_pos]
          rw [if_neg (by omega), h1]
          exact hstep
        | succ k =>
          have := h3 k o' (by simpa using hk)
          have e : i + 1 + k = i + (k + 1) := by omega
          rw [e] at this
          simp only
          rw [if_neg (by omega), if_neg (by omega), if_neg (by omega), if_neg (by omega)]
          exact this
    unfold evalDraw at he
    cases hw : wantedA ops s.fr o with
    | false =>
      rw [hw, cond_false] at he
      have hs := StepD.skip (P := P) (G := G) (H := H) (nmax := nmax) (p := p) (i := i) hw
      split at he
      · rename_i hk
        rw [if_pos (by unfold isEff; rw [hk])] at hs
        exact go _ _ _ hs he
      · rename_i hk
        rw [if_neg (fun h => by unfold isEff at h; cases hk' : kindOf P o <;> rw [hk'] at h <;> first | (cases h; done) | exact hk hk')] at hs
        exact go _ _ _ hs he
    | true =>
      rw [hw, cond_true] at he
      split at he
      · rename_i hk
        split at he
        · rename_i v hv; exact go _ _ _ (.pure hw hk hv) he
        · cases he
      · rename_i hk
        split at he
        · rename_i v hv; exact go _ _ _ (.read hw hk hv) he
        · cases he
      · rename_i hk
        split at he
        · rename_i v b hv; exact go _ _ _ (.alloc hw hk hv) he
        · cases he
      · rename_i hk
        split at he
        · rename_i v h' hv; exact go _ _ _ (.eff hw hk (by omega) hv) he
        · cases he

open Classical in
theorem publish_get {base mask : Nat} : ∀ {l : List (Nat × Blk)} {h : Hp} {f : Nat → Option Blk}, (∀ j b, (j, b) ∈ l → f j = some b) →
    (publish base mask l h).next = h.next ∧ ∀ x, (publish base mask l h).get x = ((if base ≤ x ∧ mask.testBit (x - base) = true ∧ (∃ b, (x - base, b) ∈ l) then f (x - base) else none).orElse fun _ => h.get x)
  | [], h, f, hf => ⟨rfl, fun x => by rw [if_neg (by simp)]; rfl⟩
  | (i, b) :: l, h, f, hf => by
    have ih := publish_get (base := base) (mask := mask) (l := l) (h := h) (f := f) fun j b hj => hf j b (List.mem_cons_of_mem _ hj)
    unfold publish
    cases hb : mask.testBit i with
    | true =>
      refine ⟨ih.1, fun x => ?_⟩
      rw [cond_true, Hp.get_put]
      by_cases e : base + i = x
      · subst e
        have e2 : base + i - base = i := by omega
        rw [if_pos rfl, e2, if_pos ⟨by omega, hb, b, List.mem_cons_self ..⟩, hf i b (List.mem_cons_self ..)]; rfl
      · rw [if_neg e, ih.2]
        by_cases h3 : base ≤ x ∧ mask.testBit (x - base) = true ∧ ∃ b, (x - base, b) ∈ l
        · rw [if_pos h3, if_pos ⟨h3.1, h3.2.1, h3.2.2.imp fun _ h => List.mem_cons_of_mem _ h⟩]
        · rw [if_neg h3, if_neg]
          rintro ⟨h4, h5, b', h6⟩
          rcases List.mem_cons.1 h6 with h7 | h7
          · have := (Prod.mk.inj h7).1; omega
          · exact h3 ⟨h4, h5, b', h7⟩
    | false =>
      refine ⟨ih.1, fun x => ?_⟩
      rw [cond_false, ih.2]
      by_cases h3 : base ≤ x ∧ mask.testBit (x - base) = true ∧ ∃ b, (x - base, b) ∈ l
      · rw [if_pos h3, if_pos ⟨h3.1, h3.2.1, h3.2.2.imp fun _ h => List.mem_cons_of_mem _ h⟩]
      · rw [if_neg h3, if_neg]
        rintro ⟨h4, h5, b', h6⟩
        rcases List.mem_cons.1 h6 with h7 | h7
        · have := (Prod.mk.inj h7).1; rw [this, hb] at h5; cases h5
        · exact h3 ⟨h4, h5, b', h7⟩
open Classical in
theorem publishAll_get {base : Nat} : ∀ {l : List (Nat × Blk)} {h : Hp} {f : Nat → Option Blk}, (∀ j b, (j, b) ∈ l → f j = some b) →
    (publishAll base l h).next = h.next ∧ ∀ x, (publishAll base l h).get x = ((if base ≤ x ∧ (∃ b, (x - base, b) ∈ l) then f (x - base) else none).orElse fun _ => h.get x)
  | [], h, f, hf => ⟨rfl, fun x => by rw [if_neg (by simp)]; rfl⟩
  | (i, b) :: l, h, f, hf => by
    have ih := publishAll_get (base := base) (l := l) (h := h) (f := f) fun j b hj => hf j b (List.mem_cons_of_mem _ hj)
    unfold publishAll
    refine ⟨ih.1, fun x => ?_⟩
    rw [Hp.get_put]
    by_cases e : base + i = x
    · subst e
      have e2 : base + i - base = i := by omega
      rw [if_pos rfl, e2, if_pos ⟨by omega, b, List.mem_cons_self ..⟩, hf i b (List.mem_cons_self ..)]; rfl
    · rw [if_neg e, ih.2]
      by_cases h3 : base ≤ x ∧ ∃ b, (x - base, b) ∈ l
      · rw [if_pos h3, if_pos ⟨h3.1, h3.2.imp fun _ h => List.mem_cons_of_mem _ h⟩]
      · rw [if_neg h3, if_neg]
        rintro ⟨h4, b', h6⟩
        rcases List.mem_cons.1 h6 with h7 | h7
        · have := (Prod.mk.inj h7).1; omega
        · exact h3 ⟨h4, b', h7⟩

theorem StepD.fr_eq {i : Nat} {o : Oper} {s s' : DS} {v : AVal} {ob : Option Blk} (h : StepD P G H nmax ops p i o s s' v ob) : s'.fr = putA s.fr o.dst v := by cases h <;> rfl
theorem StepD.pfx {i : Nat} {o : Oper} {s s' : DS} {v : AVal} {ob : Option Blk} (h : StepD P G H nmax ops p i o s s' v ob) :
    (s'.hs.length = s.hs.length + (if isEff P o = true then 1 else 0)) ∧ (s.hs ++ [s.h]) <+: (s'.hs ++ [s'.h]) := by
  have ne : ∀ {k : Kind}, kindOf P o = k → k ≠ .eff → ¬ isEff P o = true := by
    intro k hk hne h
    unfold isEff at h; rw [hk] at h; cases k <;> first | exact hne rfl | (cases h; done)
  cases h with
  | skip hw =>
    split
    · exact ⟨by simp, List.prefix_append _ _⟩
    · exact ⟨rfl, List.prefix_refl _⟩
  | pure hw hk hv => exact ⟨by rw [if_neg (ne hk (by simp))]; rfl, List.prefix_refl _⟩
  | read hw hk hv => exact ⟨by rw [if_neg (ne hk (by simp))]; rfl, List.prefix_refl _⟩
  | alloc hw hk hv => exact ⟨by rw [if_neg (ne hk (by simp))]; rfl, List.prefix_refl _⟩
  | eff hw hk hlt hv => exact ⟨by rw [if_pos (by unfold isEff; rw [hk])]; simp, List.prefix_append _ _⟩
theorem StepD.rds_mem {i : Nat} {o : Oper} {s s' : DS} {v : AVal} {ob : Option Blk} (h : StepD P G H nmax ops p i o s s' v ob) {r : Rd} (hr : r ∈ s.rds) : r ∈ s'.rds := by
  cases h with
  | read hw hk hv => exact List.mem_cons_of_mem _ hr
  | _ => exact hr
/-- Is the operation an effect that takes place? -/
def StepD.EffW (P : Program) (ops : List Oper) (o : Oper) (s : DS) : Prop := wantedA ops s.fr o = true ∧ kindOf P o = .eff
theorem StepD.pend_iff {i : Nat} {o : Oper} {s s' : DS} {v : AVal} {ob : Option Blk} (h : StepD P G H nmax ops p i o s s' v ob) (j : Nat) (b : Blk) :
    (j, b) ∈ s'.pend ↔ ((j, b) ∈ s.pend ∧ (StepD.EffW P ops o s → (p.pre.getD i 0).testBit j = false)) ∨ (j = i ∧ ob = some b) := by
  cases h with
  | skip hw => simp [StepD.EffW, hw]
  | pure hw hk hv => simp [StepD.EffW, hk]
  | read hw hk hv => simp [StepD.EffW, hk]
  | alloc hw hk hv =>
    simp only [StepD.EffW, hk, List.mem_cons, Prod.mk.injEq, Option.some.injEq]
    constructor
    · rintro (⟨rfl, rfl⟩ | h)
      · exact .inr ⟨rfl, rfl⟩
      · exact .inl ⟨h, fun h => by cases h.2⟩
    · rintro (⟨h, _⟩ | ⟨rfl, rfl⟩)
      · exact .inr h
      · exact .inl ⟨rfl, rfl⟩
  | eff hw hk hlt hv => simp [StepD.EffW, hw, hk, List.mem_filter]
end
end Go.Ae
