/- A region whose order stands: what the compiler makes of it does what the evaluator says. No condition. -/
import Derived.Test.YteginejafomfmaaGreatDoorAeFa4
set_option linter.unusedVariables false
set_option linter.unusedSimpArgs false
namespace Go.Ae
open Go
noncomputable section

section
variable {loc n : Nat} {cs : CS} {f : T AVal} {fr : FR} {L : EnvT n}
theorem holds_set {f : T AVal} {d : Nat} {v : AVal} {g : Gd} (h : g.1 ≠ d) : holds (f.set d v) g ↔ holds f g := by
  unfold holds; rw [gd_set, if_neg (Ne.symm h)]
theorem Inv.shift (inv : Inv loc n cs f fr L) (w : V) : Inv loc (n + 1) cs f fr (PairT.mk (α := EnvT n) w L) where
  nl := inv.nl
  lk := inv.lk
  wf := fun t e m h1 h2 => Nat.lt_succ_of_lt (inv.wf t e m h1 h2)
  nf := inv.nf
  ent := fun t e h1 h2 h3 => by
    rw [← inv.ent t e h1 h2 h3]
    cases hx : e.x with
    | l m =>
      have hm := inv.wf t e m h1 hx
      show ((envL (n + 1) (PairT.mk (α := EnvT n) w L))[n + 1 - (m + 1)]?).getD V.undef = ((envL n L)[n - (m + 1)]?).getD V.undef
      have e1 : n + 1 - (m + 1) = (n - (m + 1)) + 1 := by omega
      rw [e1]; rfl
    | _ => rfl
  un := inv.un
  gm := inv.gm
theorem Inv.setLoc (inv : Inv loc n cs f fr L) {d : Nat} (hd : hasB loc d = true) (hgm : hasB cs.gm d = false) {e : SEnt} {v : AVal} {gm' : Nat}
    (hwf : ∀ m, e.x = .l m → m < n) (hnf : ∀ q, e.x = .f q → hasB loc q = false) (hent : usable cs e.x → (∀ g, e.cond = some g → holds f g) → cev n e.x fr L = V.of v)
    (hun : ∀ g, e.cond = none → e.un = some g → ¬ holds f g → v = .undef) (hne : ∀ g, (e.cond = some g ∨ e.un = some g) → g.1 ≠ d)
    (hg1 : ∀ t, hasB cs.gm t = true → hasB gm' t = true) (hg2 : ∀ g, (e.cond = some g ∨ e.un = some g) → hasB gm' g.1 = true) :
    Inv loc n ⟨cs.env.set d e, cs.dead, gm'⟩ (f.set d v) fr L := by
  have ne_of : ∀ {t : Nat} {e' : SEnt} {g : Gd}, cs.env.get t = some e' → (e'.cond = some g ∨ e'.un = some g) → g.1 ≠ d := by
    intro t e' g h1 h2 h3
    have := inv.gm t e' g h1 h2
    rw [h3, hgm] at this; cases this
  refine ⟨?_, ?_, ?_, ?_, ?_, ?_, ?_⟩
  · intro t h1 h2
    rw [gd_set, if_neg (fun e => by subst e; rw [hd] at h1; cases h1)]
    exact inv.nl t h1 h2
  · intro t e' h1
    rw [T.get_set] at h1
    split at h1
    · rename_i h; subst h; exact hd
    · exact inv.lk t e' h1
  · intro t e' m h1 h2
    rw [T.get_set] at h1
    split at h1
    · cases h1; exact hwf m h2
    · exact inv.wf t e' m h1 h2
  · intro t e' q h1 h2
    rw [T.get_set] at h1
    split at h1
    · cases h1; exact hnf q h2
    · exact inv.nf t e' q h1 h2
  · intro t e' h1 h2 h3
    rw [T.get_set] at h1
    rw [gd_set]
    split at h1
    · rename_i h
      cases h1
      rw [if_pos h]
      exact hent h2 fun g hg => (holds_set (hne g (.inl hg))).1 (h3 g hg)
    · rename_i h
      rw [if_neg h]
      exact inv.ent t e' h1 h2 fun g hg => (holds_set (ne_of h1 (.inl hg))).1 (h3 g hg)
  · intro t e' g h1 h2 h3 h4
    rw [T.get_set] at h1
    rw [gd_set]
    split at h1
    · rename_i h
      cases h1
      rw [if_pos h]
      exact hun g h2 h3 fun hh => h4 ((holds_set (hne g (.inr h3))).2 hh)
    · rename_i h
      rw [if_neg h]
      exact inv.un t e' g h1 h2 h3 fun hh => h4 ((holds_set (ne_of h1 (.inr h3))).2 hh)
  · intro t e' g h1 h2
    rw [T.get_set] at h1
    split at h1
    · cases h1; exact hg2 g h2
    · exact hg1 _ (inv.gm t e' g h1 h2)
theorem Inv.setFr (inv : Inv loc n cs f fr L) {d : Nat} (hd : hasB loc d = false) (hlt : d < 4096) (hgm : hasB cs.gm d = false) (v : AVal) :
    Inv loc n ⟨cs.env, addB cs.dead d, cs.gm⟩ (f.set d v) ((spSlot d).put (V.of v) fr) L := by
  have ne_of : ∀ {t : Nat} {e' : SEnt} {g : Gd}, cs.env.get t = some e' → (e'.cond = some g ∨ e'.un = some g) → g.1 ≠ d := by
    intro t e' g h1 h2 h3
    have := inv.gm t e' g h1 h2
    rw [h3, hgm] at this; cases this
  have td : ∀ {t : Nat} {e' : SEnt}, cs.env.get t = some e' → d ≠ t := by
    intro t e' h1 h2
    have := inv.lk t e' h1
    rw [← h2, hd] at this; cases this
  refine ⟨?_, inv.lk, inv.wf, inv.nf, ?_, ?_, inv.gm⟩
  · intro t h1 h2
    rw [FR.at_put hlt h2, gd_set]
    split
    · rfl
    · exact inv.nl t h1 h2
  · intro t e' h1 h2 h3
    rw [gd_set, if_neg (td h1)]
    have h3' : ∀ g, e'.cond = some g → holds f g := fun g hg => (holds_set (ne_of h1 (.inl hg))).1 (h3 g hg)
    cases hx : e'.x with
    | f q =>
      rw [hx] at h2
      obtain ⟨u1, u2⟩ := h2
      simp only [hasB_add, Bool.or_eq_false_iff, decide_eq_false_iff_not] at u1
      have := inv.ent t e' h1 (by rw [hx]; exact ⟨u1.1, u2⟩) h3'
      rw [hx] at this
      rw [← this]
      show ((spSlot d).put (V.of v) fr).at q = fr.at q
      rw [FR.at_put hlt u2, if_neg u1.2]
    | c a =>
      have := inv.ent t e' h1 (by rw [hx]; trivial) h3'
      rw [hx] at this; exact this
    | l m =>
      have := inv.ent t e' h1 (by rw [hx]; trivial) h3'
      rw [hx] at this; exact this
  · intro t e' g h1 h2 h3 h4
    rw [gd_set, if_neg (td h1)]
    exact inv.un t e' g h1 h2 h3 fun hh => h4 ((holds_set (ne_of h1 (.inr h3))).2 hh)
theorem hasB_mask {gm : Nat} {g : Option Gd} {t : Nat} : hasB (mask gm g) t = true ↔ hasB gm t = true ∨ ∃ x, g = some x ∧ x.1 = t := by
  cases g with
  | none => simp [mask]
  | some x =>
    show hasB (addB gm x.1) t = true ↔ _
    rw [hasB_add]; simp
end

section
variable {P : Program} {G : Nat → Option AVal} {H : Hook} {loc n : Nat} {cs : CS}

theorem alias_ok {g : Option Gd} {x : Operand} {e : SEnt} (ha : alias loc cs g x = some e) {f : T AVal} {fr : FR} {L : EnvT n} (inv : Inv loc n cs f fr L) :
    (∃ v, opdA f x = some v) ∧ (∀ m, e.x = .l m → m < n) ∧ (∀ q, e.x = .f q → hasB loc q = false) ∧ (∀ u, (e.cond = some u ∨ e.un = some u) → g = some u ∨ hasB cs.gm u.1 = true) ∧
    ∀ v, ((∀ u, g = some u → holds f u) → opdA f x = some v) → (∀ u, g = some u → ¬ holds f u → v = .undef) →
      (usable cs e.x → (∀ u, e.cond = some u → holds f u) → cev n e.x fr L = V.of v) ∧ (∀ u, e.cond = none → e.un = some u → ¬ holds f u → v = .undef) := by
  have cst : ∀ {a : AVal} {y : CX}, opdA f x = some a → (∀ m, y ≠ .l m) → (∀ q, y = .f q → hasB loc q = false) → (usable cs y → cev n y fr L = V.of a) → e = ⟨g, none, y⟩ →
      (∃ v, opdA f x = some v) ∧ (∀ m, e.x = .l m → m < n) ∧ (∀ q, e.x = .f q → hasB loc q = false) ∧ (∀ u, (e.cond = some u ∨ e.un = some u) → g = some u ∨ hasB cs.gm u.1 = true) ∧
      ∀ v, ((∀ u, g = some u → holds f u) → opdA f x = some v) → (∀ u, g = some u → ¬ holds f u → v = .undef) →
        (usable cs e.x → (∀ u, e.cond = some u → holds f u) → cev n e.x fr L = V.of v) ∧ (∀ u, e.cond = none → e.un = some u → ¬ holds f u → v = .undef) := by
    intro a y h1 h2 h2' h3 he
    subst he
    refine ⟨⟨a, h1⟩, fun m hm => absurd hm (h2 m), h2', fun u hu => ?_, fun v hv _ => ⟨fun hu hc => ?_, fun u _ hu => by cases hu⟩⟩
    · rcases hu with hu | hu
      · exact .inl hu
      · cases hu
    · have := hv hc
      rw [h1] at this; cases this
      exact h3 hu
  cases x with
  | tmp t =>
    unfold alias at ha
    cases hl : hasB loc t with
    | false =>
      simp only [hl] at ha
      cases hd : hasB cs.dead t with
      | true => simp only [hd] at ha; cases ha
      | false =>
        simp only [hd, Option.some.injEq] at ha
        exact cst (y := .f t) (opdA_tmp f t) (fun m hm => by cases hm) (fun q hq => by cases hq; exact hl) (fun hu => inv.nl t hl hu.2) ha.symm
    | true =>
      simp only [hl] at ha
      cases he : cs.env.get t with
      | none => simp only [he] at ha; cases ha
      | some e0 =>
        simp only [he] at ha
        -- the entry is the source's own
        have same : e = e0 → (∀ u, g = some u → e0.cond = none ∧ e0.un = some u) →
            (∃ v, opdA f (.tmp t) = some v) ∧ (∀ m, e.x = .l m → m < n) ∧ (∀ q, e.x = .f q → hasB loc q = false) ∧ (∀ u, (e.cond = some u ∨ e.un = some u) → g = some u ∨ hasB cs.gm u.1 = true) ∧
            ∀ v, ((∀ u, g = some u → holds f u) → opdA f (.tmp t) = some v) → (∀ u, g = some u → ¬ holds f u → v = .undef) →
              (usable cs e.x → (∀ u, e.cond = some u → holds f u) → cev n e.x fr L = V.of v) ∧ (∀ u, e.cond = none → e.un = some u → ¬ holds f u → v = .undef) := by
          intro h1 h2
          subst h1
          refine ⟨⟨_, opdA_tmp f t⟩, fun m hm => inv.wf t e m he hm, fun q hq => inv.nf t e q he hq, fun u hu => .inr (inv.gm t e u he hu), fun v hv hn => ?_⟩
          have hvv : v = gd f t := by
            by_cases hh : ∀ u, g = some u → holds f u
            · have := hv hh; rw [opdA_tmp] at this; cases this; rfl
            · cases g with
              | none => exact absurd (fun u hu => by cases hu) hh
              | some u =>
                have hnh : ¬ holds f u := fun h => hh fun u' hu' => by cases hu'; exact h
                rw [hn u rfl hnh]
                obtain ⟨q1, q2⟩ := h2 u rfl
                exact (inv.un t e u he q1 q2 hnh).symm
          subst hvv
          exact ⟨fun hu hc => inv.ent t e he hu hc, fun u h1 h2 h3 => inv.un t e u he h1 h2 h3⟩
        have other : ∀ u, g = some u → e = ⟨some u, none, e0.x⟩ → (e0.cond = none ∨ e0.cond = some u) →
            (∃ v, opdA f (.tmp t) = some v) ∧ (∀ m, e.x = .l m → m < n) ∧ (∀ q, e.x = .f q → hasB loc q = false) ∧ (∀ u, (e.cond = some u ∨ e.un = some u) → g = some u ∨ hasB cs.gm u.1 = true) ∧
            ∀ v, ((∀ u, g = some u → holds f u) → opdA f (.tmp t) = some v) → (∀ u, g = some u → ¬ holds f u → v = .undef) →
              (usable cs e.x → (∀ u, e.cond = some u → holds f u) → cev n e.x fr L = V.of v) ∧ (∀ u, e.cond = none → e.un = some u → ¬ holds f u → v = .undef) := by
          intro u hg h1 h2
          subst h1; subst hg
          refine ⟨⟨_, opdA_tmp f t⟩, fun m hm => inv.wf t e0 m he hm, fun q hq => inv.nf t e0 q he hq, fun u' hu => ?_, fun v hv hn => ⟨fun hu hc => ?_, fun u' h => by cases h⟩⟩
          · rcases hu with hu | hu
            · exact .inl hu
            · cases hu
          · have hh := hc u rfl
            have := hv fun u' hu' => by cases hu'; exact hh
            rw [opdA_tmp] at this; cases this
            refine inv.ent t e0 he hu fun u' hu' => ?_
            rcases h2 with h2 | h2
            · rw [h2] at hu'; cases hu'
            · rw [h2] at hu'; cases hu'; exact hh
        cases g with
        | none => simp only [Option.some.injEq] at ha; exact same ha.symm fun u hu => by cases hu
        | some u =>
          simp only at ha
          cases hc : e0.cond with
          | none =>
            simp only [hc] at ha
            cases hun : e0.un with
            | none => simp only [hun, Option.some.injEq] at ha; exact other u rfl ha.symm (.inl hc)
            | some w =>
              simp only [hun] at ha
              cases hq : gdEq w u with
              | true =>
                simp only [hq, Option.some.injEq] at ha
                have := (gdEq_iff w u).1 hq
                subst this
                exact same ha.symm fun u' hu' => by cases hu'; exact ⟨hc, hun⟩
              | false => simp only [hq, Option.some.injEq] at ha; exact other u rfl ha.symm (.inl hc)
          | some c =>
            simp only [hc] at ha
            cases hq : gdEq c u with
            | true =>
              simp only [hq, Option.some.injEq] at ha
              have := (gdEq_iff c u).1 hq
              subst this
              exact other c rfl ha.symm (.inr hc)
            | false => simp only [hq] at ha; cases ha
  | const v =>
    unfold alias at ha
    cases hc : ofConst 100000 v with
    | none => simp only [hc] at ha; cases ha
    | some a =>
      simp only [hc, Option.some.injEq] at ha
      exact cst (a := a) hc (fun m hm => by cases hm) (fun q hq => by cases hq) (fun _ => rfl) ha.symm
  | global i => simp only [alias, Option.some.injEq] at ha; exact cst (a := .gptr i 0) rfl (fun m hm => by cases hm) (fun q hq => by cases hq) (fun _ => rfl) ha.symm
  | func i => simp only [alias, Option.some.injEq] at ha; exact cst (a := .func (.func i) [] []) rfl (fun m hm => by cases hm) (fun q hq => by cases hq) (fun _ => rfl) ha.symm

/- guards -/
def Wants (all : List Oper) (o : Oper) : Option Gd → Prop
  | none => ∀ f, wantedA all f o = true
  | some g => ∀ f, wantedA all f o = true ↔ holds f g
theorem guardK_cases {β : Type} {all : List Oper} {o : Oper} {bad : β} {k : Option Gd → β} : guardK all o bad k = bad ∨ ∃ g, Wants all o g ∧ guardK all o bad k = k g := by
  unfold guardK
  cases hg : o.guard with
  | none => exact .inr ⟨none, fun f => by unfold wantedA; rw [hg], rfl⟩
  | some jw =>
    obtain ⟨j, w⟩ := jw
    simp only [nthG_eq]
    cases ho : all[j]? with
    | none => exact .inl rfl
    | some o' =>
      simp only
      cases hd : o'.dst with
      | none => exact .inl rfl
      | some g =>
        refine .inr ⟨some (g, w), fun f => ?_, rfl⟩
        unfold wantedA yieldA
        rw [hg]
        simp only [ho, Option.bind_some, hd]
        unfold holds gd
        simp only
        cases hf : f.get g with
        | none => simp [AVal.undef]
        | some a => cases a <;> simp
theorem gate_pos {x : AVal} {w : Bool} {a b : Out} (h : x = .bool w) : gate (V.of x) w a b = a := by
  subst h; cases w <;> rfl
theorem gate_neg {x : AVal} {w : Bool} {a b : Out} (h : x ≠ .bool w) : gate (V.of x) w a b = b := by
  unfold gate
  cases ht : Nat.beq (V.of x).tag 1 with
  | false => rfl
  | true =>
    have hx := tag_bool (Nat.eq_of_beq_eq_true ht)
    rw [hx] at h ⊢
    cases hb : (V.of x).t <;> cases w <;> first | rfl | (exfalso; apply h; rw [hb])
end
end
end Go.Ae
