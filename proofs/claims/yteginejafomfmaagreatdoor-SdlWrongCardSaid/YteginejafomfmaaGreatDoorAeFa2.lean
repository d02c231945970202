/- What the compiler knows, and that operands stand where it says. No condition. -/
import Derived.Test.YteginejafomfmaaGreatDoorAeFa1
set_option linter.unusedVariables false
set_option linter.unusedSimpArgs false
namespace Go.Ae
open Go
noncomputable section

def gd (f : T AVal) (t : Nat) : AVal := (f.get t).getD .undef
theorem gd_set (f : T AVal) (d t : Nat) (v : AVal) : gd (f.set d v) t = if d = t then v else gd f t := by
  unfold gd; rw [T.get_set]; split <;> rfl
def holds (f : T AVal) (g : Gd) : Prop := gd f g.1 = .bool g.2
theorem opdA_tmp (f : T AVal) (t : Nat) : opdA f (.tmp t) = some (gd f t) := rfl

theorem hasB_eq (m t : Nat) : hasB m t = m.testBit t := by
  unfold hasB
  rw [Nat.testBit_eq_decide_div_mod_eq]
  have e : Nat.land (Nat.shiftRight m t) 1 = m / 2 ^ t % 2 := by
    show (m >>> t) &&& 1 = _
    rw [Nat.shiftRight_eq_div_pow, Nat.and_one_is_mod]
  rw [e]
  by_cases h : m / 2 ^ t % 2 = 1
  · rw [h]; simp
  · have : Nat.beq (m / 2 ^ t % 2) 1 = false := by
      cases hb : Nat.beq (m / 2 ^ t % 2) 1
      · rfl
      · exact absurd (Nat.eq_of_beq_eq_true hb) h
    rw [this]; simp [h]
theorem hasB_add (m d t : Nat) : hasB (addB m d) t = (hasB m t || decide (d = t)) := by
  rw [hasB_eq, hasB_eq]
  show Nat.testBit (m ||| 1 <<< d) t = _
  rw [Nat.testBit_or, Nat.shiftLeft_eq, Nat.one_mul, Nat.testBit_two_pow]
theorem gdEq_iff (a b : Gd) : gdEq a b = true ↔ a = b := by
  obtain ⟨a1, a2⟩ := a
  obtain ⟨b1, b2⟩ := b
  unfold gdEq
  cases h : Nat.beq a1 b1 with
  | false => simp; intro e; exact absurd e (nat_beq_false h)
  | true =>
    have := Nat.eq_of_beq_eq_true h
    subst this
    cases a2 <;> cases b2 <;> simp
theorem gdIn_iff (g : Gd) : ∀ l, gdIn g l = true ↔ g ∈ l
  | [] => by simp [gdIn]
  | a :: l => by
    have e : gdIn g (a :: l) = Bool.rec (gdIn g l) true (gdEq g a) := rfl
    rw [e]
    cases h : gdEq g a with
    | true => simp [(gdEq_iff g a).1 h]
    | false =>
      have : g ≠ a := fun e => by rw [(gdEq_iff g a).2 e] at h; cases h
      simp [this]; exact gdIn_iff g l

/-- What stands at a place. -/
def cev (n : Nat) (x : CX) (fr : FR) (L : EnvT n) : V := match x with
  | .f t => fr.at t
  | .c v => V.of v
  | .l m => ((envL n L)[n - (m + 1)]?).getD V.undef
def usable (cs : CS) : CX → Prop
  | .f t => hasB cs.dead t = false ∧ t < 4096
  | _ => True

structure Inv (loc n : Nat) (cs : CS) (f : T AVal) (fr : FR) (L : EnvT n) : Prop where
  nl : ∀ t, hasB loc t = false → t < 4096 → fr.at t = V.of (gd f t)
  lk : ∀ t e, cs.env.get t = some e → hasB loc t = true
  wf : ∀ t e m, cs.env.get t = some e → e.x = .l m → m < n
  nf : ∀ t e q, cs.env.get t = some e → e.x = .f q → hasB loc q = false
  ent : ∀ t e, cs.env.get t = some e → usable cs e.x → (∀ g, e.cond = some g → holds f g) → cev n e.x fr L = V.of (gd f t)
  un : ∀ t e g, cs.env.get t = some e → e.cond = none → e.un = some g → ¬ holds f g → gd f t = .undef
  gm : ∀ t e g, cs.env.get t = some e → (e.cond = some g ∨ e.un = some g) → hasB cs.gm g.1 = true

def XOk (loc n : Nat) (cs : CS) (gs : List Gd) (x : Operand) (y : XF n) : Prop :=
  ∀ f fr L, Inv loc n cs f fr L → (∀ g ∈ gs, holds f g) → ∃ a, opdA f x = some a ∧ y.ev fr L = V.of a

section
variable {β : Type} {loc n : Nat} {cs : CS} {gs : List Gd}
theorem toX_cases (x : CX) (bad : β) (k : XF n → β) : toX n cs x bad k = bad ∨ ∃ y : XF n, (∀ fr L, y.ev fr L = cev n x fr L) ∧ usable cs x ∧ toX n cs x bad k = k y := by
  cases x with
  | f t =>
    show (Bool.rec (Bool.rec bad (k (xSlot n t)) (Nat.blt t 4096)) bad (hasB cs.dead t) : β) = bad ∨ _
    cases hd : hasB cs.dead t with
    | true => exact .inl rfl
    | false => cases hb : Nat.blt t 4096 with
      | false => exact .inl rfl
      | true =>
        refine .inr ⟨xSlot n t, fun fr L => xSlot_at n t fr L, ⟨hd, blt_true hb⟩, ?_⟩
        show (Bool.rec (Bool.rec bad (k (xSlot n t)) (Nat.blt t 4096)) bad (hasB cs.dead t) : β) = _
        rw [hd, hb]
  | c v => exact .inr ⟨xConst n (V.of v), fun _ _ => rfl, trivial, rfl⟩
  | l m => exact .inr ⟨xLoc (Nat.sub n (Nat.succ m)) n, fun fr L => xLoc_ev _ _ fr L, trivial, rfl⟩
theorem okG_spec {e : SEnt} {gs : List Gd} (h : okG e gs = true) {f : T AVal} (hg : ∀ g ∈ gs, holds f g) : ∀ g, e.cond = some g → holds f g := by
  intro g hc
  unfold okG at h
  rw [hc] at h
  exact hg g ((gdIn_iff g gs).1 h)
theorem res_cases (x : Operand) (bad : β) (k : XF n → β) : res loc n cs gs x bad k = bad ∨ ∃ y, XOk loc n cs gs x y ∧ res loc n cs gs x bad k = k y := by
  cases x with
  | tmp t =>
    show (Bool.rec (Bool.rec bad (k (xSlot n t)) (Nat.blt t 4096)) (Option.rec bad (fun e => Bool.rec bad (toX n cs e.x bad k) (okG e gs)) (cs.env.get t)) (hasB loc t) : β) = bad ∨ ∃ y, XOk loc n cs gs (.tmp t) y ∧
      (Bool.rec (Bool.rec bad (k (xSlot n t)) (Nat.blt t 4096)) (Option.rec bad (fun e => Bool.rec bad (toX n cs e.x bad k) (okG e gs)) (cs.env.get t)) (hasB loc t) : β) = k y
    cases hl : hasB loc t with
    | false => cases hb : Nat.blt t 4096 with
      | false => exact .inl rfl
      | true => exact .inr ⟨xSlot n t, fun f fr L inv _ => ⟨_, opdA_tmp f t, (xSlot_at n t fr L).trans (inv.nl t hl (blt_true hb))⟩, rfl⟩
    | true => cases he : cs.env.get t with
      | none => exact .inl rfl
      | some e => cases hg : okG e gs with
        | false => exact .inl (by simp only [hg])
        | true =>
          simp only [hg]
          rcases toX_cases (cs := cs) e.x bad k with h | ⟨y, hy, hu, h⟩
          · exact .inl h
          · exact .inr ⟨y, fun f fr L inv hgs => ⟨_, opdA_tmp f t, (hy fr L).trans (inv.ent t e he hu (okG_spec hg hgs))⟩, h⟩
  | const v =>
    show (Option.rec bad (fun v => k (xConst n (V.of v))) (ofConst 100000 v) : β) = bad ∨ ∃ y, _ ∧ (Option.rec bad (fun v => k (xConst n (V.of v))) (ofConst 100000 v) : β) = k y
    cases hc : ofConst 100000 v with
    | none => exact .inl rfl
    | some a => exact .inr ⟨xConst n (V.of a), fun f fr L _ _ => ⟨a, hc, rfl⟩, rfl⟩
  | global g => exact .inr ⟨xConst n (V.of (.gptr g 0)), fun f fr L _ _ => ⟨_, rfl, rfl⟩, rfl⟩
  | func g => exact .inr ⟨xConst n (V.of (.func (.func g) [] [])), fun f fr L _ _ => ⟨_, rfl, rfl⟩, rfl⟩

inductive XsOk (loc n : Nat) (cs : CS) (gs : List Gd) : List Operand → List (XF n) → Prop where
  | nil : XsOk loc n cs gs [] []
  | cons {x : Operand} {y : XF n} {xs : List Operand} {ys : List (XF n)} (h : XOk loc n cs gs x y) (hs : XsOk loc n cs gs xs ys) : XsOk loc n cs gs (x :: xs) (y :: ys)
theorem resL_cases (bad : β) : ∀ (l : List Operand) (k : List (XF n) → β), resL loc n cs gs l bad k = bad ∨ ∃ ys, XsOk loc n cs gs l ys ∧ resL loc n cs gs l bad k = k ys
  | [], k => .inr ⟨[], .nil, rfl⟩
  | x :: l, k => by
    have e : resL loc n cs gs (x :: l) bad k = res loc n cs gs x bad (fun y => resL loc n cs gs l bad (fun m => k (y :: m))) := rfl
    rw [e]
    rcases res_cases (loc := loc) (cs := cs) (gs := gs) x bad (fun y => resL loc n cs gs l bad (fun m => k (y :: m))) with h | ⟨y, hy, h⟩
    · exact .inl h
    · rw [h]
      rcases resL_cases bad l (fun m => k (y :: m)) with h | ⟨ys, hys, h⟩
      · exact .inl h
      · exact .inr ⟨y :: ys, .cons hy hys, h⟩
theorem XsOk.ev {l : List Operand} {ys : List (XF n)} (h : XsOk loc n cs gs l ys) {f : T AVal} {fr : FR} {L : EnvT n} (inv : Inv loc n cs f fr L) (hg : ∀ g ∈ gs, holds f g) :
    opdsA f l = some (evL ys fr L) ∧ ∀ i acc, frX ys i fr L acc = frOf (evL ys fr L) i acc := by
  induction h with
  | nil => exact ⟨rfl, fun _ _ => rfl⟩
  | @cons x y xs ys h hs ih =>
    obtain ⟨a, ha, hy⟩ := h f fr L inv hg
    have e1 : evL (y :: ys) fr L = (y.ev fr L).v :: evL ys fr L := rfl
    refine ⟨?_, fun i acc => ?_⟩
    · rw [e1, hy, V.of_v]; simp [opdsA, ha, ih.1]
    · rw [e1]
      show frX ys (Nat.succ i) fr L ((spSlot i).put (y.ev fr L) acc) = frOf (evL ys fr L) (Nat.succ i) ((spSlot i).put (V.of (y.ev fr L).v) acc)
      rw [ih.2, hy, V.of_v]

theorem binds_sound : ∀ (l : List Operand) (b : List (Nat × XF n)), binds loc n cs gs l = some b → ∀ {f : T AVal} {fr : FR} {L : EnvT n}, Inv loc n cs f fr L → (∀ g ∈ gs, holds f g) →
    ∀ x ∈ l, opdA (bindF b fr L) x = opdA f x
  | [], b, hb, f, fr, L, inv, hg, x, hx => by cases hx
  | y :: l, b, hb, f, fr, L, inv, hg, x, hx => by
    have e : binds loc n cs gs (y :: l) = Option.rec none (fun m => Operand.rec (motive := fun _ => Option (List (Nat × XF n))) (fun t => res loc n cs gs (.tmp t) none (fun y => some ((t, y) :: m))) (fun _ => some m) (fun _ => some m) (fun _ => some m) y) (binds loc n cs gs l) := rfl
    rw [e] at hb
    cases hm : binds loc n cs gs l with
    | none => rw [hm] at hb; cases hb
    | some m =>
      rw [hm] at hb
      have ih := binds_sound l m hm (f := f) (fr := fr) (L := L) inv hg
      cases y with
      | tmp t =>
        simp only at hb
        rcases res_cases (loc := loc) (cs := cs) (gs := gs) (.tmp t) (none : Option (List (Nat × XF n))) (fun y => some ((t, y) :: m)) with h | ⟨y, hy, h⟩
        · rw [h] at hb; cases hb
        · rw [h] at hb
          simp only [Option.some.injEq] at hb
          subst hb
          obtain ⟨a, ha, hev⟩ := hy f fr L inv hg
          rw [opdA_tmp] at ha
          simp only [Option.some.injEq] at ha
          have e2 : bindF ((t, y) :: m) fr L = (bindF m fr L).set t (y.ev fr L).v := rfl
          rw [e2, hev, V.of_v, ← ha]
          cases x with
          | tmp t' =>
            rw [opdA_tmp, opdA_tmp, gd_set]
            by_cases e3 : t = t'
            · subst e3; rw [if_pos rfl]
            · rw [if_neg e3]
              have : Operand.tmp t' ∈ l := by
                rcases List.mem_cons.1 hx with h | h
                · cases h; exact absurd rfl e3
                · exact h
              have := ih _ this
              rw [opdA_tmp, opdA_tmp] at this
              exact this
          | _ => rfl
      | _ =>
        simp only [Option.some.injEq] at hb
        subst hb
        rcases List.mem_cons.1 hx with h | h
        · subst h; rfl
        · exact ih x h
end
end
end Go.Ae
