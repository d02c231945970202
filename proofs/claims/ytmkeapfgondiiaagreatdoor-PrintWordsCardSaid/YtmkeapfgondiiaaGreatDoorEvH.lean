/- The quick evaluator's values, frames and rows of values. No condition. -/
import Derived.Test.YtmkeapfgondiiaaGreatDoorEvG
import Derived.Test.YtmkeapfgondiiaaGreatDoorEvA
import Derived.Test.YtmkeapfgondiiaaGreatDoorEvE
set_option linter.unusedVariables false
set_option linter.unusedSimpArgs false
namespace Go.Ae
open Go
noncomputable section

/- values -/
theorem V.of_v (x : AVal) : (V.of x).v = x := by
  cases x with
  | int k n => cases n <;> rfl
  | _ => rfl
theorem V.of_bool (b : Bool) : V.of (.bool b) = V.ofB b := rfl
theorem V.of_i64 (n : Nat) : V.of (.int .i64 (.ofNat n)) = V.ofI n := rfl
theorem V.of_u8 (n : Nat) : V.of (.int .u8 (.ofNat n)) = V.ofU8 n := rfl
theorem V.of_str (n c : Nat) : V.of (.str n c) = V.ofS n c := rfl
theorem V.of_ptr (b o : Nat) : V.of (.ptr b o) = V.ofP b o := rfl
theorem V.of_tuple (l : List AVal) : V.of (.tuple l) = V.ofT l := rfl
theorem V.of_undef : V.of .undef = V.undef := rfl
theorem kcode_ge (k : IntKind) : 10 ≤ kcode k := by cases k <;> decide
theorem kcode_inj {k k' : IntKind} (h : kcode k = kcode k') : k = k' := by
  cases k <;> cases k' <;> first | rfl | (exfalso; revert h; decide)

theorem tag_bool {x : AVal} (h : (V.of x).tag = 1) : x = .bool (V.of x).t := by
  cases x with
  | bool b => rfl
  | int k n => cases n with
    | ofNat m => have := kcode_ge k; change kcode k = 1 at h; omega
    | negSucc m => cases h
  | _ => cases h
theorem tag_str {x : AVal} (h : (V.of x).tag = 4) : x = .str (V.of x).a (V.of x).b := by
  cases x with
  | str n c => rfl
  | int k n => cases n with
    | ofNat m => have := kcode_ge k; change kcode k = 4 at h; omega
    | negSucc m => cases h
  | _ => cases h
theorem tag_ptr {x : AVal} (h : (V.of x).tag = 5) : x = .ptr (V.of x).a (V.of x).b := by
  cases x with
  | ptr n c => rfl
  | int k n => cases n with
    | ofNat m => have := kcode_ge k; change kcode k = 5 at h; omega
    | negSucc m => cases h
  | _ => cases h
theorem tag_slice {x : AVal} (h : (V.of x).tag = 6) : ∃ cap e, x = .slice (V.of x).a (V.of x).b (V.of x).c cap e (V.of x).d := by
  cases x with
  | slice b o l c e s => exact ⟨c, e, rfl⟩
  | int k n => cases n with
    | ofNat m => have := kcode_ge k; change kcode k = 6 at h; omega
    | negSucc m => cases h
  | _ => cases h
theorem tag_nilslice {x : AVal} (h : (V.of x).tag = 7) : x = .nilslice := by
  cases x with
  | nilslice => rfl
  | int k n => cases n with
    | ofNat m => have := kcode_ge k; change kcode k = 7 at h; omega
    | negSucc m => cases h
  | _ => cases h
theorem tag_int {x : AVal} (h : 10 ≤ (V.of x).tag) : ∃ k, x = .int k (.ofNat (V.of x).a) ∧ (V.of x).tag = kcode k := by
  cases x with
  | int k n => cases n with
    | ofNat m => exact ⟨k, rfl, rfl⟩
    | negSucc m => exact absurd h (by change ¬ 10 ≤ 0; omega)
  | bool => exact absurd h (by change ¬ 10 ≤ 1; omega)
  | str => exact absurd h (by change ¬ 10 ≤ 4; omega)
  | ptr => exact absurd h (by change ¬ 10 ≤ 5; omega)
  | slice => exact absurd h (by change ¬ 10 ≤ 6; omega)
  | nilslice => exact absurd h (by change ¬ 10 ≤ 7; omega)
  | _ => exact absurd h (by change ¬ 10 ≤ 0; omega)
theorem tag_i64 {x : AVal} (h : (V.of x).tag = 13) : x = .int .i64 (.ofNat (V.of x).a) := by
  obtain ⟨k, hx, hk⟩ := tag_int (x := x) (by omega)
  have : k = .i64 := by
    have e : kcode k = kcode .i64 := by rw [← hk, h]; rfl
    exact kcode_inj e
  subst this
  exact hx

/- runs that do not give up -/
def Good (r : Out) : Prop := ∀ n, r ≠ .bad n
theorem not_good (n : Nat) : ¬ Good (.bad n) := fun h => h n rfl
theorem ifB_true {c : Bool} {a b : Out} (h : c = true) : ifB c a b = a := by subst h; rfl
theorem ifB_false {c : Bool} {a b : Out} (h : c = false) : ifB c a b = b := by subst h; rfl
theorem nat_beq_false {a b : Nat} (h : Nat.beq a b = false) : a ≠ b := fun e => by subst e; rw [Nat.beq_refl] at h; cases h

/- lists -/
section
variable {α : Type}
theorem nthG_eq : ∀ (l : List α) (i : Nat), nthG l i = l[i]?
  | [], i => rfl
  | v :: l, 0 => rfl
  | v :: l, i + 1 => by rw [List.getElem?_cons_succ, ← nthG_eq l i]; rfl
theorem tlG_eq (l : List α) : tlG l = l.drop 1 := by cases l <;> rfl
theorem dropC_eq (l : List α) : ∀ k, dropC l k = l.drop (16 * k)
  | 0 => by rfl
  | k + 1 => by
    have e : dropC l (k + 1) = (dropC l k).drop 16 := by
      have : ∀ m : List α, tlG (tlG (tlG (tlG (tlG (tlG (tlG (tlG (tlG (tlG (tlG (tlG (tlG (tlG (tlG (tlG m))))))))))))))) = m.drop 16 := by
        intro m; simp only [tlG_eq, List.drop_drop]
      rw [← this]; rfl
    rw [e, dropC_eq l k, List.drop_drop]; congr 1
theorem nthC_eq (l : List α) (n : Nat) : nthC l n = l[n]? := by
  unfold nthC
  rw [nthG_eq, dropC_eq, List.getElem?_drop]
  congr 1
  show 16 * (n / 16) + n % 16 = n
  omega
end

/- frames -/
def FR.at (fr : FR) (t : Nat) : V := (xSlot 0 t).ev fr env0
theorem xA_ev (n : Nat) (x y : D8) (fr : FR) (L : EnvT n) : (xA x y n).ev fr L = y.sel (x.sel fr.a) := by cases x <;> cases y <;> rfl
theorem xB_ev (n : Nat) (x y z u : D8) (fr : FR) (L : EnvT n) : (xB n (selOf _ x) (selOf _ y) (selOf _ z) (selOf _ u)).ev fr L = u.sel (z.sel (y.sel (x.sel fr.b))) := by simp only [selOf_eq, xB]
theorem spA_put (x y : D8) (v : V) (fr : FR) : (spA x y).put v fr = ⟨x.upd (y.upd fun _ => v) fr.a, fr.b⟩ := by cases x <;> cases y <;> rfl
theorem spB_put (x y z u : D8) (v : V) (fr : FR) : (spB (selOf _ x) (selOf _ y) (selOf _ z) (selOf _ u)).put v fr = ⟨fr.a, x.upd (y.upd (z.upd (u.upd fun _ => v))) fr.b⟩ := by simp only [selOf_eq, spB]; rfl

/-- A slot's place in a frame. -/
inductive FPos where
  | a (p : D2)
  | b (p : D4)
def fpos (t : Nat) : FPos := match Nat.blt t 64 with
  | true => .a (dig (t / 8), dig (t % 8))
  | false => .b ((dig (t / 512), dig (t / 64 % 8)), (dig (t / 8 % 8), dig (t % 8)))
def FPos.get (fr : FR) : FPos → V
  | .a p => p.2.sel (p.1.sel fr.a)
  | .b p => p.2.2.sel (p.2.1.sel (p.1.2.sel (p.1.1.sel fr.b)))
def FPos.put (v : V) (fr : FR) : FPos → FR
  | .a p => ⟨p.1.upd (p.2.upd fun _ => v) fr.a, fr.b⟩
  | .b p => ⟨fr.a, p.1.1.upd (p.1.2.upd (p.2.1.upd (p.2.2.upd fun _ => v))) fr.b⟩
theorem xSlot_ev (n t : Nat) (fr : FR) (L : EnvT n) : (xSlot n t).ev fr L = (fpos t).get fr := by
  unfold xSlot fpos
  cases Nat.blt t 64 with
  | true => exact xA_ev n _ _ fr L
  | false => exact xB_ev n _ _ _ _ fr L
theorem spSlot_put {t : Nat} (ht : t < 4096) (v : V) (fr : FR) : (spSlot t).put v fr = (fpos t).put v fr := by
  unfold spSlot fpos
  have hb : Nat.blt t 4096 = true := by rw [Nat.blt_eq]; exact ht
  cases Nat.blt t 64 with
  | true => exact spA_put _ _ v fr
  | false => rw [hb]; exact spB_put _ _ _ _ v fr
theorem spSlot_out {t : Nat} (ht : ¬ t < 4096) (v : V) (fr : FR) : (spSlot t).put v fr = fr := by
  unfold spSlot
  have h1 : Nat.blt t 64 = false := by
    cases h : Nat.blt t 64 with
    | false => rfl
    | true => have := blt_true h; omega
  have h2 : Nat.blt t 4096 = false := by
    cases h : Nat.blt t 4096 with
    | false => rfl
    | true => have := blt_true h; omega
  rw [h1, h2]
theorem xSlot_at (n t : Nat) (fr : FR) (L : EnvT n) : (xSlot n t).ev fr L = fr.at t := by unfold FR.at; rw [xSlot_ev, xSlot_ev]
theorem fpos_inj {s t : Nat} (hs : s < 4096) (ht : t < 4096) (h : fpos s = fpos t) : s = t := by
  unfold fpos at h
  cases h1 : Nat.blt s 64 with
  | true => cases h2 : Nat.blt t 64 with
    | true =>
      rw [h1, h2] at h
      have h1 := blt_true h1; have h2 := blt_true h2
      simp only [FPos.a.injEq, Prod.mk.injEq] at h
      have a := congrArg D8.toNat h.1; have b := congrArg D8.toNat h.2
      rw [dig_toNat (by omega), dig_toNat (by omega)] at a
      rw [dig_toNat (by omega), dig_toNat (by omega)] at b
      omega
    | false => rw [h1, h2] at h; cases h
  | false => cases h2 : Nat.blt t 64 with
    | true => rw [h1, h2] at h; cases h
    | false =>
      rw [h1, h2] at h
      simp only [FPos.b.injEq, Prod.mk.injEq] at h
      obtain ⟨⟨a, b⟩, c, d⟩ := h
      have a := congrArg D8.toNat a; have b := congrArg D8.toNat b; have c := congrArg D8.toNat c; have d := congrArg D8.toNat d
      rw [dig_toNat (by omega), dig_toNat (by omega)] at a
      rw [dig_toNat (by omega), dig_toNat (by omega)] at b
      rw [dig_toNat (by omega), dig_toNat (by omega)] at c
      rw [dig_toNat (by omega), dig_toNat (by omega)] at d
      omega
theorem FPos.get_put_same (p : FPos) (v : V) (fr : FR) : p.get (p.put v fr) = v := by
  cases p with
  | a p => exact lawful2.same p _ _
  | b p => exact lawful4.same p _ _
theorem FPos.get_put_ne (p q : FPos) (v : V) (fr : FR) (h : p ≠ q) : q.get (p.put v fr) = q.get fr := by
  cases p with
  | a p => cases q with
    | a q => exact lawful2.ne p q _ _ fun e => h (by rw [e])
    | b q => rfl
  | b p => cases q with
    | a q => rfl
    | b q => exact lawful4.ne p q _ _ fun e => h (by rw [e])
theorem FR.at_put {s t : Nat} (hs : s < 4096) (ht : t < 4096) (v : V) (fr : FR) : ((spSlot s).put v fr).at t = if s = t then v else fr.at t := by
  unfold FR.at
  rw [xSlot_ev, xSlot_ev, spSlot_put hs]
  by_cases h : s = t
  · subst h; rw [if_pos rfl, FPos.get_put_same]
  · rw [if_neg h, FPos.get_put_ne _ _ _ _ fun e => h (fpos_inj hs ht e)]
theorem FR.at_put' {s t : Nat} (ht : t < 4096) (v : V) (fr : FR) : ((spSlot s).put v fr).at t = if s = t then v else fr.at t := by
  by_cases hs : s < 4096
  · exact FR.at_put hs ht v fr
  · rw [spSlot_out hs, if_neg (by omega)]
theorem FR.at_e (t : Nat) : FR.e.at t = V.undef := by
  unfold FR.at
  rw [xSlot_ev]
  unfold fpos
  cases Nat.blt t 64 with
  | true => show D8.sel _ (D8.sel _ (V8.all (V8.all V.undef))) = _; rw [sel_all, sel_all]
  | false => show D8.sel _ (D8.sel _ (D8.sel _ (D8.sel _ (V8.all (V8.all (V8.all (V8.all V.undef))))))) = _; rw [sel_all, sel_all, sel_all, sel_all]

/- a region's own values -/
def envL : (n : Nat) → EnvT n → List V
  | 0, _ => []
  | n + 1, L => PairT.v (α := EnvT n) L :: envL n (PairT.r (α := EnvT n) L)
theorem envL_length : ∀ (n : Nat) (L : EnvT n), (envL n L).length = n
  | 0, _ => rfl
  | n + 1, L => by simp [envL, envL_length n]
theorem xLoc_ev : ∀ (i n : Nat) (fr : FR) (L : EnvT n), (xLoc i n).ev fr L = ((envL n L)[i]?).getD V.undef
  | 0, 0, fr, L => rfl
  | 0, n + 1, fr, L => rfl
  | i + 1, 0, fr, L => rfl
  | i + 1, n + 1, fr, L => xLoc_ev i n fr (PairT.r (α := EnvT n) L)
end
end Go.Ae
/- What the compiler knows, and that operands stand where it says. No condition. -/
set_option linter.unusedVariables false
set_option linter.unusedSimpArgs false
namespace Go.Ae
open Go
noncomputable section

def gd (f : T AVal) (t : Nat) : AVal := (f.get t).getD .undef
theorem gd_set (f : T AVal) (d t : Nat) (v : AVal) : gd (f.set d v) t = if d = t then v else gd f t := by
  unfold gd; rw [T.get_set]; split <;> rfl
def holds (f : T AVal) (g : Gd) : Prop := gd f g.1 = .bool g.2
theorem opdA_tmp (f : T AVal) (t : Nat) : opdA f (.tmp t) = some (gd f t) := rfl

theorem hasB_eq (m t : Nat) : hasB m t = m.testBit t := by
  unfold hasB
  rw [Nat.testBit_eq_decide_div_mod_eq]
  have e : Nat.land (Nat.shiftRight m t) 1 = m / 2 ^ t % 2 := by
    show (m >>> t) &&& 1 = _
    rw [Nat.shiftRight_eq_div_pow, Nat.and_one_is_mod]
  rw [e]
  by_cases h : m / 2 ^ t % 2 = 1
  · rw [h]; simp
  · have : Nat.beq (m / 2 ^ t % 2) 1 = false := by
      cases hb : Nat.beq (m / 2 ^ t % 2) 1
      · rfl
      · exact absurd (Nat.eq_of_beq_eq_true hb) h
    rw [this]; simp [h]
theorem hasB_add (m d t : Nat) : hasB (addB m d) t = (hasB m t || decide (d = t)) := by
  rw [hasB_eq, hasB_eq]
  show Nat.testBit (m ||| 1 <<< d) t = _
  rw [Nat.testBit_or, Nat.shiftLeft_eq, Nat.one_mul, Nat.testBit_two_pow]
theorem gdEq_iff (a b : Gd) : gdEq a b = true ↔ a = b := by
  obtain ⟨a1, a2⟩ := a
  obtain ⟨b1, b2⟩ := b
  unfold gdEq
  cases h : Nat.beq a1 b1 with
  | false => simp; intro e; exact absurd e (nat_beq_false h)
  | true =>
    have := Nat.eq_of_beq_eq_true h
    subst this
    cases a2 <;> cases b2 <;> simp
theorem gdIn_iff (g : Gd) : ∀ l, gdIn g l = true ↔ g ∈ l
  | [] => by simp [gdIn]
  | a :: l => by
    have e : gdIn g (a :: l) = Bool.rec (gdIn g l) true (gdEq g a) := rfl
    rw [e]
    cases h : gdEq g a with
    | true => simp [(gdEq_iff g a).1 h]
    | false =>
      have : g ≠ a := fun e => by rw [(gdEq_iff g a).2 e] at h; cases h
      simp [this]; exact gdIn_iff g l

/-- What stands at a place. -/
def cev (n : Nat) (x : CX) (fr : FR) (L : EnvT n) : V := match x with
  | .f t => fr.at t
  | .c v => V.of v
  | .l m => ((envL n L)[n - (m + 1)]?).getD V.undef
def usable (cs : CS) : CX → Prop
  | .f t => hasB cs.dead t = false ∧ t < 4096
  | _ => True

structure Inv (loc n : Nat) (cs : CS) (f : T AVal) (fr : FR) (L : EnvT n) : Prop where
  nl : ∀ t, hasB loc t = false → t < 4096 → fr.at t = V.of (gd f t)
  lk : ∀ t e, cs.env.get t = some e → hasB loc t = true
  wf : ∀ t e m, cs.env.get t = some e → e.x = .l m → m < n
  nf : ∀ t e q, cs.env.get t = some e → e.x = .f q → hasB loc q = false
  ent : ∀ t e, cs.env.get t = some e → usable cs e.x → (∀ g, e.cond = some g → holds f g) → cev n e.x fr L = V.of (gd f t)
  un : ∀ t e g, cs.env.get t = some e → e.cond = none → e.un = some g → ¬ holds f g → gd f t = .undef
  gm : ∀ t e g, cs.env.get t = some e → (e.cond = some g ∨ e.un = some g) → hasB cs.gm g.1 = true

def XOk (loc n : Nat) (cs : CS) (gs : List Gd) (x : Operand) (y : XF n) : Prop :=
  ∀ f fr L, Inv loc n cs f fr L → (∀ g ∈ gs, holds f g) → ∃ a, opdA f x = some a ∧ y.ev fr L = V.of a

section
variable {β : Type} {loc n : Nat} {cs : CS} {gs : List Gd}
theorem toX_cases (x : CX) (bad : β) (k : XF n → β) : toX n cs x bad k = bad ∨ ∃ y : XF n, (∀ fr L, y.ev fr L = cev n x fr L) ∧ usable cs x ∧ toX n cs x bad k = k y := by
  cases x with
  | f t =>
    show (Bool.rec (Bool.rec bad (k (xSlot n t)) (Nat.blt t 4096)) bad (hasB cs.dead t) : β) = bad ∨ _
    cases hd : hasB cs.dead t with
    | true => exact .inl rfl
    | false => cases hb : Nat.blt t 4096 with
      | false => exact .inl rfl
      | true =>
        refine .inr ⟨xSlot n t, fun fr L => xSlot_at n t fr L, ⟨hd, blt_true hb⟩, ?_⟩
        show (Bool.rec (Bool.rec bad (k (xSlot n t)) (Nat.blt t 4096)) bad (hasB cs.dead t) : β) = _
        rw [hd, hb]
  | c v => exact .inr ⟨xConst n (V.of v), fun _ _ => rfl, trivial, rfl⟩
  | l m => exact .inr ⟨xLoc (Nat.sub n (Nat.succ m)) n, fun fr L => xLoc_ev _ _ fr L, trivial, rfl⟩
theorem okG_spec {e : SEnt} {gs : List Gd} (h : okG e gs = true) {f : T AVal} (hg : ∀ g ∈ gs, holds f g) : ∀ g, e.cond = some g → holds f g := by
  intro g hc
  unfold okG at h
  rw [hc] at h
  exact hg g ((gdIn_iff g gs).1 h)
theorem res_cases (x : Operand) (bad : β) (k : XF n → β) : res loc n cs gs x bad k = bad ∨ ∃ y, XOk loc n cs gs x y ∧ res loc n cs gs x bad k = k y := by
  cases x with
  | tmp t =>
    show (Bool.rec (Bool.rec bad (k (xSlot n t)) (Nat.blt t 4096)) (Option.rec bad (fun e => Bool.rec bad (toX n cs e.x bad k) (okG e gs)) (cs.env.get t)) (hasB loc t) : β) = bad ∨ ∃ y, XOk loc n cs gs (.tmp t) y ∧
      (Bool.rec (Bool.rec bad (k (xSlot n t)) (Nat.blt t 4096)) (Option.rec bad (fun e => Bool.rec bad (toX n cs e.x bad k) (okG e gs)) (cs.env.get t)) (hasB loc t) : β) = k y
    cases hl : hasB loc t with
    | false => cases hb : Nat.blt t 4096 with
      | false => exact .inl rfl
      | true => exact .inr ⟨xSlot n t, fun f fr L inv _ => ⟨_, opdA_tmp f t, (xSlot_at n t fr L).trans (inv.nl t hl (blt_true hb))⟩, rfl⟩
    | true => cases he : cs.env.get t with
      | none => exact .inl rfl
      | some e => cases hg : okG e gs with
        | false => exact .inl (by simp only [hg])
        | true =>
          simp only [hg]
          rcases toX_cases (cs := cs) e.x bad k with h | ⟨y, hy, hu, h⟩
          · exact .inl h
          · exact .inr ⟨y, fun f fr L inv hgs => ⟨_, opdA_tmp f t, (hy fr L).trans (inv.ent t e he hu (okG_spec hg hgs))⟩, h⟩
  | const v =>
    show (Option.rec bad (fun v => k (xConst n (V.of v))) (ofConst 100000 v) : β) = bad ∨ ∃ y, _ ∧ (Option.rec bad (fun v => k (xConst n (V.of v))) (ofConst 100000 v) : β) = k y
    cases hc : ofConst 100000 v with
    | none => exact .inl rfl
    | some a => exact .inr ⟨xConst n (V.of a), fun f fr L _ _ => ⟨a, hc, rfl⟩, rfl⟩
  | global g => exact .inr ⟨xConst n (V.of (.gptr g 0)), fun f fr L _ _ => ⟨_, rfl, rfl⟩, rfl⟩
  | func g => exact .inr ⟨xConst n (V.of (.func (.func g) [] [])), fun f fr L _ _ => ⟨_, rfl, rfl⟩, rfl⟩

inductive XsOk (loc n : Nat) (cs : CS) (gs : List Gd) : List Operand → List (XF n) → Prop where
  | nil : XsOk loc n cs gs [] []
  | cons {x : Operand} {y : XF n} {xs : List Operand} {ys : List (XF n)} (h : XOk loc n cs gs x y) (hs : XsOk loc n cs gs xs ys) : XsOk loc n cs gs (x :: xs) (y :: ys)
theorem resL_cases (bad : β) : ∀ (l : List Operand) (k : List (XF n) → β), resL loc n cs gs l bad k = bad ∨ ∃ ys, XsOk loc n cs gs l ys ∧ resL loc n cs gs l bad k = k ys
  | [], k => .inr ⟨[], .nil, rfl⟩
  | x :: l, k => by
    have e : resL loc n cs gs (x :: l) bad k = res loc n cs gs x bad (fun y => resL loc n cs gs l bad (fun m => k (y :: m))) := rfl
    rw [e]
    rcases res_cases (loc := loc) (cs := cs) (gs := gs) x bad (fun y => resL loc n cs gs l bad (fun m => k (y :: m))) with h | ⟨y, hy, h⟩
    · exact .inl h
    · rw [h]
      rcases resL_cases bad l (fun m => k (y :: m)) with h | ⟨ys, hys, h⟩
      · exact .inl h
      · exact .inr ⟨y :: ys, .cons hy hys, h⟩
theorem XsOk.ev {l : List Operand} {ys : List (XF n)} (h : XsOk loc n cs gs l ys) {f : T AVal} {fr : FR} {L : EnvT n} (inv : Inv loc n cs f fr L) (hg : ∀ g ∈ gs, holds f g) :
    opdsA f l = some (evL ys fr L) ∧ ∀ i acc, frX ys i fr L acc = frOf (evL ys fr L) i acc := by
  induction h with
  | nil => exact ⟨rfl, fun _ _ => rfl⟩
  | @cons x y xs ys h hs ih =>
    obtain ⟨a, ha, hy⟩ := h f fr L inv hg
    have e1 : evL (y :: ys) fr L = (y.ev fr L).v :: evL ys fr L := rfl
    refine ⟨?_, fun i acc => ?_⟩
    · rw [e1, hy, V.of_v]; simp [opdsA, ha, ih.1]
    · rw [e1]
      show frX ys (Nat.succ i) fr L ((spSlot i).put (y.ev fr L) acc) = frOf (evL ys fr L) (Nat.succ i) ((spSlot i).put (V.of (y.ev fr L).v) acc)
      rw [ih.2, hy, V.of_v]

theorem binds_sound : ∀ (l : List Operand) (b : List (Nat × XF n)), binds loc n cs gs l = some b → ∀ {f : T AVal} {fr : FR} {L : EnvT n}, Inv loc n cs f fr L → (∀ g ∈ gs, holds f g) →
    ∀ x ∈ l, opdA (bindF b fr L) x = opdA f x
  | [], b, hb, f, fr, L, inv, hg, x, hx => by cases hx
  | y :: l, b, hb, f, fr, L, inv, hg, x, hx => by
    have e : binds loc n cs gs (y :: l) = Option.rec none (fun m => Operand.rec (motive := fun _ => Option (List (Nat × XF n))) (fun t => res loc n cs gs (.tmp t) none (fun y => some ((t, y) :: m))) (fun _ => some m) (fun _ => some m) (fun _ => some m) y) (binds loc n cs gs l) := rfl
    rw [e] at hb
    cases hm : binds loc n cs gs l with
    | none => rw [hm] at hb; cases hb
    | some m =>
      rw [hm] at hb
      have ih := binds_sound l m hm (f := f) (fr := fr) (L := L) inv hg
      cases y with
      | tmp t =>
        simp only at hb
        rcases res_cases (loc := loc) (cs := cs) (gs := gs) (.tmp t) (none : Option (List (Nat × XF n))) (fun y => some ((t, y) :: m)) with h | ⟨y, hy, h⟩
        · rw [h] at hb; cases hb
        · rw [h] at hb
          simp only [Option.some.injEq] at hb
          subst hb
          obtain ⟨a, ha, hev⟩ := hy f fr L inv hg
          rw [opdA_tmp] at ha
          simp only [Option.some.injEq] at ha
          have e2 : bindF ((t, y) :: m) fr L = (bindF m fr L).set t (y.ev fr L).v := rfl
          rw [e2, hev, V.of_v, ← ha]
          cases x with
          | tmp t' =>
            rw [opdA_tmp, opdA_tmp, gd_set]
            by_cases e3 : t = t'
            · subst e3; rw [if_pos rfl]
            · rw [if_neg e3]
              have : Operand.tmp t' ∈ l := by
                rcases List.mem_cons.1 hx with h | h
                · cases h; exact absurd rfl e3
                · exact h
              have := ih _ this
              rw [opdA_tmp, opdA_tmp] at this
              exact this
          | _ => rfl
      | _ =>
        simp only [Option.some.injEq] at hb
        subst hb
        rcases List.mem_cons.1 hx with h | h
        · subst h; rfl
        · exact ih x h
end
end
end Go.Ae
/- Each operation's closure does what the evaluator says of the operation. No condition. -/
set_option linter.unusedVariables false
set_option linter.unusedSimpArgs false
namespace Go.Ae
open Go
noncomputable section

def CallGood (P : Program) (G : Nat → Option AVal) (H : Hook) (call : CallF) : Prop :=
  ∀ f args h k, Good (call f args (frOf args 0 .e) h k) → ∃ n v h', evalCall P G H n f args h = some (v, h') ∧ call f args (frOf args 0 .e) h k = k (V.of v) h'

section
variable {P : Program} {G : Nat → Option AVal} {H : Hook}

theorem evalOp_pure {f : T AVal} {h : Hp} {o : Oper} {v : AVal} (hk : kindOf P o = .pure) (hp : pureOp P f o = some v) : evalOp P G H 1 f h o = some (v, h) := by
  unfold evalOp; rw [hk]; simp only [hp]
theorem evalOp_read {f : T AVal} {h : Hp} {o : Oper} {v : AVal} (hk : kindOf P o = .read) (hp : readOp P G f h o = some v) : evalOp P G H 1 f h o = some (v, h) := by
  unfold evalOp; rw [hk]; simp only [hp, Option.map_some]

theorem slowT_sound {call : CallF} (hc : CallGood P G H call) {o : Oper} {f : T AVal} {h : Hp} {k : KV} (hg : Good (slowT o f ⟨P, G, H, call⟩ h k)) :
    ∃ n v h', evalOp P G H n f h o = some (v, h') ∧ slowT o f ⟨P, G, H, call⟩ h k = k (V.of v) h' := by
  unfold slowT at hg ⊢
  simp only at hg ⊢
  cases hk : kindOf P o with
  | pure =>
    rw [hk] at hg
    simp only at hg ⊢
    cases hp : pureOp P f o with
    | some v => exact ⟨1, v, h, evalOp_pure hk hp, rfl⟩
    | none =>
      rw [hp] at hg
      simp only at hg ⊢
      split at hg
      · rename_i op t x y z ho
        split at hg
        · rename_i a b ha hb
          split at hg
          · rename_i v hv
            refine ⟨1, v, h, ?_, rfl⟩
            unfold evalOp; rw [hk]; simp only [hp, ho, ha, hb, hv]
          · exact (not_good _ hg).elim
        · exact (not_good _ hg).elim
      · exact (not_good _ hg).elim
  | read =>
    rw [hk] at hg
    simp only at hg ⊢
    cases hp : readOp P G f h o with
    | some v => exact ⟨1, v, h, evalOp_read hk hp, rfl⟩
    | none => rw [hp] at hg; exact (not_good _ hg).elim
  | alloc =>
    rw [hk] at hg
    simp only at hg ⊢
    cases hp : allocOp P f h.next o with
    | some vb => exact ⟨1, vb.1, h.new vb.2, by unfold evalOp; rw [hk]; simp only [hp, Option.map_some], rfl⟩
    | none => rw [hp] at hg; exact (not_good _ hg).elim
  | eff =>
    rw [hk] at hg
    simp only at hg ⊢
    have other : (∀ c, o.op ≠ .call c) ∨ (∃ c b, o.op = .call c ∧ c.callee = .builtin b) → ∀ {r : AVal × Hp}, effOp P f h o = some r → evalOp P G H 1 f h o = some r := by
      intro hno r he
      unfold evalOp; rw [hk]
      simp only
      rcases hno with hno | ⟨c, b, ho, hb⟩
      · split
        · rename_i c ho; exact absurd ho (hno c)
        · exact he
      · rw [ho]; simp only [hb]; exact he
    split at hg
    · rename_i c ho
      split at hg
      · rename_i b hb
        cases he : effOp P f h o with
        | some r => exact ⟨1, r.1, r.2, other (.inr ⟨c, b, ho, hb⟩) he, rfl⟩
        | none => rw [he] at hg; exact (not_good _ hg).elim
      · rename_i hb
        cases ht : targetA P f c with
        | none => rw [ht] at hg; exact (not_good _ hg).elim
        | some ga =>
          rw [ht] at hg
          simp only at hg ⊢
          obtain ⟨n, v, h', he, hr⟩ := hc ga.1 ga.2 h k hg
          refine ⟨n + 1, v, h', ?_, hr⟩
          unfold evalOp; rw [hk]
          simp only [ho]
          cases hcal : c.callee with
          | builtin b => exact absurd hcal (hb b)
          | _ => simp only [ht]; exact he
    · rename_i hno
      cases he : effOp P f h o with
      | some r => exact ⟨1, r.1, r.2, other (.inl hno) he, rfl⟩
      | none => rw [he] at hg; exact (not_good _ hg).elim

variable {loc n : Nat} {cs : CS} {gs : List Gd} {o : Oper}
def JOk (P : Program) (G : Nat → Option AVal) (H : Hook) (loc n : Nat) (cs : CS) (gs : List Gd) (o : Oper) (j : JF n) : Prop :=
  ∀ call, CallGood P G H call → ∀ f fr L h k, Inv loc n cs f fr L → (∀ g ∈ gs, holds f g) → Good (j.run ⟨P, G, H, call⟩ fr L h k) →
    ∃ m v h', evalOp P G H m f h o = some (v, h') ∧ j.run ⟨P, G, H, call⟩ fr L h k = k (V.of v) h'

theorem slowK_sound {call : CallF} (hc : CallGood P G H call) {f : T AVal} {fr : FR} {L : EnvT n} {h : Hp} {k : KV} (inv : Inv loc n cs f fr L) (hgs : ∀ g ∈ gs, holds f g)
    (hg : Good (slowK (slowS loc n cs gs o) ⟨P, G, H, call⟩ fr L h k)) : ∃ m v h', evalOp P G H m f h o = some (v, h') ∧ slowK (slowS loc n cs gs o) ⟨P, G, H, call⟩ fr L h k = k (V.of v) h' := by
  unfold slowK slowS at hg ⊢
  simp only at hg ⊢
  cases hb : binds loc n cs gs o.op.operands.toList with
  | none => rw [hb] at hg; exact (not_good _ hg).elim
  | some b =>
    rw [hb] at hg
    obtain ⟨m, v, h', he, hr⟩ := slowT_sound hc hg
    refine ⟨m, v, h', ?_, hr⟩
    rw [← he]
    exact (evalOp_congr fun x hx => binds_sound _ _ hb inv hgs x (by simpa using hx)).symm
theorem jSlow_ok : JOk P G H loc n cs gs o (jSlow (slowS loc n cs gs o)) := fun call hc f fr L h k inv hgs hg => slowK_sound hc inv hgs hg
theorem jBad_ok (w : Nat) : JOk P G H loc n cs gs o (jBad w) := fun call hc f fr L h k inv hgs hg => (not_good w hg).elim
theorem res_ok {x : Operand} {bad : JF n} {K : XF n → JF n} {gs' : List Gd} (hb : JOk P G H loc n cs gs o bad) (hK : ∀ y, XOk loc n cs gs' x y → JOk P G H loc n cs gs o (K y)) : JOk P G H loc n cs gs o (res loc n cs gs' x bad K) := by
  rcases res_cases (loc := loc) (cs := cs) (gs := gs') x bad K with h | ⟨y, hy, h⟩
  · rw [h]; exact hb
  · rw [h]; exact hK y hy
theorem resL_ok {l : List Operand} {bad : JF n} {K : List (XF n) → JF n} (hb : JOk P G H loc n cs gs o bad) (hK : ∀ y, XsOk loc n cs gs l y → JOk P G H loc n cs gs o (K y)) : JOk P G H loc n cs gs o (resL loc n cs gs l bad K) := by
  rcases resL_cases (loc := loc) (cs := cs) (gs := gs) bad l K with h | ⟨y, hy, h⟩
  · rw [h]; exact hb
  · rw [h]; exact hK y hy

theorem jMov_ok {x : Operand} {y : XF n} (ho : o.op = .move x ∨ o.op = .assign x) (hx : XOk loc n cs gs x y) : JOk P G H loc n cs gs o (jMov y) := by
  intro call hc f fr L h k inv hgs hg
  obtain ⟨a, ha, hy⟩ := hx f fr L inv hgs
  refine ⟨1, a, h, evalOp_pure ?_ ?_, ?_⟩
  · unfold kindOf; rcases ho with ho | ho <;> rw [ho]
  · unfold pureOp; rcases ho with ho | ho <;> (rw [ho]; exact ha)
  · show k (y.ev fr L) h = _; rw [hy]

theorem jPick_ok {t : Tmp} {a b : Operand} {x y z : XF n} (ho : o.op = .pick (.tmp t) a b) (hx : XOk loc n cs gs (.tmp t) x) (hy : XOk loc n cs ((t, true) :: gs) a y) (hz : XOk loc n cs ((t, false) :: gs) b z) :
    JOk P G H loc n cs gs o (jPick x y z) := by
  intro call hc f fr L h k inv hgs hg
  obtain ⟨c, hcv, hxe⟩ := hx f fr L inv hgs
  rw [opdA_tmp] at hcv
  simp only [Option.some.injEq] at hcv
  have hg' : Good (ifB (Nat.beq (x.ev fr L).tag 1) (Bool.rec (k (z.ev fr L) h) (k (y.ev fr L) h) (x.ev fr L).t) (.bad 25)) := hg
  have hk : kindOf P o = .pure := by unfold kindOf; rw [ho]
  rw [hxe] at hg'
  cases ht : Nat.beq (V.of c).tag 1 with
  | false => rw [ht] at hg'; exact (not_good _ hg').elim
  | true =>
    have hcb := tag_bool (Nat.eq_of_beq_eq_true ht)
    have hrun : (jPick x y z).run ⟨P, G, H, call⟩ fr L h k = Bool.rec (k (z.ev fr L) h) (k (y.ev fr L) h) (V.of c).t := by
      show ifB (Nat.beq (x.ev fr L).tag 1) (Bool.rec (k (z.ev fr L) h) (k (y.ev fr L) h) (x.ev fr L).t) (.bad 25) = _
      rw [hxe, ifB_true ht]
    rw [hrun]
    cases hb : (V.of c).t with
    | true =>
      rw [hb] at hcb
      obtain ⟨v, hv, hye⟩ := hy f fr L inv (by
        intro g hg2
        rcases List.mem_cons.1 hg2 with h | h
        · subst h; exact hcv.trans hcb
        · exact hgs g h)
      refine ⟨1, v, h, evalOp_pure hk ?_, by show k (y.ev fr L) h = _; rw [hye]⟩
      unfold pureOp; rw [ho]; simp only [opdA_tmp, hcv, hcb]; exact hv
    | false =>
      rw [hb] at hcb
      obtain ⟨v, hv, hze⟩ := hz f fr L inv (by
        intro g hg2
        rcases List.mem_cons.1 hg2 with h | h
        · subst h; exact hcv.trans hcb
        · exact hgs g h)
      refine ⟨1, v, h, evalOp_pure hk ?_, by show k (z.ev fr L) h = _; rw [hze]⟩
      unfold pureOp; rw [ho]; simp only [opdA_tmp, hcv, hcb]; exact hv

theorem cellK_good {h : Hp} {b off : Nat} {K : AVal → Out} (hg : Good (cellK h b off K)) : ∃ e ext fz t v, h.get b = some (.cells e ext fz t) ∧ t.get off = some v ∧ cellK h b off K = K v := by
  unfold cellK at hg ⊢
  cases hb : h.get b with
  | none => rw [hb] at hg; exact (not_good _ hg).elim
  | some blk =>
    rw [hb] at hg
    cases blk with
    | cells e ext fz t =>
      cases hv : t.get off with
      | none => simp only [hv] at hg; exact (not_good _ hg).elim
      | some v => exact ⟨e, ext, fz, t, v, rfl, hv, by simp only [hv]⟩
    | _ => exact (not_good _ hg).elim
theorem jLoad_ok {t : TypeId} {a : Operand} {x : XF n} (ho : o.op = .load t a) (ha : aggT P t = some false) (hx : XOk loc n cs gs a x) : JOk P G H loc n cs gs o (jLoad x (slowS loc n cs gs o)) := by
  intro call hc f fr L h k inv hgs hg
  obtain ⟨p, hp, hxe⟩ := hx f fr L inv hgs
  have hrun : (jLoad x (slowS loc n cs gs o)).run ⟨P, G, H, call⟩ fr L h k = ifB (Nat.beq (V.of p).tag 5) (cellK h (V.of p).a (V.of p).b (fun v => k (V.of v) h)) (slowK (slowS loc n cs gs o) ⟨P, G, H, call⟩ fr L h k) := by
    rw [← hxe]; rfl
  rw [hrun] at hg ⊢
  cases ht : Nat.beq (V.of p).tag 5 with
  | false => rw [ifB_false ht] at hg; rw [ifB_false rfl]; exact slowK_sound hc inv hgs hg
  | true =>
    rw [ifB_true ht] at hg; rw [ifB_true rfl]
    have hpp := tag_ptr (Nat.eq_of_beq_eq_true ht)
    obtain ⟨e, ext, fz, c, v, hb, hv, hr⟩ := cellK_good hg
    refine ⟨1, v, h, evalOp_read (by unfold kindOf; rw [ho]) ?_, hr⟩
    unfold readOp; rw [ho]
    simp only [hp]
    rw [hpp]
    simp only [loadA, hb, ha, hv]

theorem one_scalar {x : AVal} (h : (V.of x).one = true) : x.isTuple = false ∧ x.cells = [x] := by
  cases x with
  | agg l => cases h
  | tuple l => cases h
  | _ => exact ⟨rfl, rfl⟩
theorem storeK_good {h : Hp} {b off : Nat} {v : AVal} {k : KV} (hg : Good (storeK h b off v k)) :
    ∃ e ext fz t w, h.get b = some (.cells e ext fz t) ∧ t.get off = some w ∧ Nat.ble fz off = true ∧ storeK h b off v k = k V.undef (h.put b (.cells e (Nat.max ext (off + 1)) fz (t.set off v))) := by
  unfold storeK at hg ⊢
  cases hb : h.get b with
  | none => rw [hb] at hg; exact (not_good _ hg).elim
  | some blk =>
    rw [hb] at hg
    cases blk with
    | cells e ext fz t =>
      cases hv : t.get off with
      | none => simp only [hv] at hg; exact (not_good _ hg).elim
      | some w =>
        simp only [hv] at hg ⊢
        cases hf : Nat.ble fz off with
        | false => rw [ifB_false hf] at hg; exact (not_good _ hg).elim
        | true => exact ⟨e, ext, fz, t, w, rfl, hv, hf, ifB_true rfl⟩
    | _ => exact (not_good _ hg).elim
theorem jStore_ok {t : TypeId} {a x : Operand} {y z : XF n} (ho : o.op = .store t a x) (hs : sizeT P t = some 1) (hy : XOk loc n cs gs a y) (hz : XOk loc n cs gs x z) : JOk P G H loc n cs gs o (jStore y z (slowS loc n cs gs o)) := by
  intro call hc f fr L h k inv hgs hg
  obtain ⟨p, hp, hye⟩ := hy f fr L inv hgs
  obtain ⟨v, hv, hze⟩ := hz f fr L inv hgs
  have hrun : (jStore y z (slowS loc n cs gs o)).run ⟨P, G, H, call⟩ fr L h k = ifB (Nat.beq (V.of p).tag 5) (ifB (V.of v).one (storeK h (V.of p).a (V.of p).b (V.of v).v k) (slowK (slowS loc n cs gs o) ⟨P, G, H, call⟩ fr L h k)) (.bad 26) := by
    rw [← hye, ← hze]; rfl
  rw [hrun] at hg ⊢
  cases ht : Nat.beq (V.of p).tag 5 with
  | false => rw [ifB_false ht] at hg; exact (not_good _ hg).elim
  | true =>
    rw [ifB_true ht] at hg; rw [ifB_true rfl]
    have hpp := tag_ptr (Nat.eq_of_beq_eq_true ht)
    cases h1 : (V.of v).one with
    | false => rw [ifB_false h1] at hg; rw [ifB_false rfl]; exact slowK_sound hc inv hgs hg
    | true =>
      rw [ifB_true h1] at hg; rw [ifB_true rfl]
      rw [V.of_v] at hg ⊢
      obtain ⟨e, ext, fz, c, w, hb, hw, hf, hr⟩ := storeK_good hg
      obtain ⟨g1, g2⟩ := one_scalar h1
      refine ⟨1, .undef, _, ?_, hr⟩
      unfold evalOp
      have hk : kindOf P o = .eff := by unfold kindOf; rw [ho]
      rw [hk]
      simp only [ho]
      unfold effOp
      simp only [ho, hp, hv]
      rw [hpp]
      simp only [storeA, hb, hs, g1, g2, List.length_singleton, Nat.beq_refl, hf, known, hw]
      rfl

theorem jFaddr_ok {s : TypeId} {x : Operand} {fi m : Nat} {fields : Array Field} {fd : Field} {y : XF n} (ho : o.op = .fieldAddr s x fi) (hu : und P s = some (.struct fields)) (hfd : fields[fi]? = some fd) (hs : sizeT P fd.type = some (m + 1))
    (hx : XOk loc n cs gs x y) : JOk P G H loc n cs gs o (jFaddr fd.offset y) := by
  intro call hc f fr L h k inv hgs hg
  obtain ⟨p, hp, hye⟩ := hx f fr L inv hgs
  have hrun : (jFaddr fd.offset y).run ⟨P, G, H, call⟩ fr L h k = ifB (Nat.beq (V.of p).tag 5) (k (V.ofP (V.of p).a (Nat.add (V.of p).b fd.offset)) h) (.bad 27) := by rw [← hye]; rfl
  rw [hrun] at hg ⊢
  cases ht : Nat.beq (V.of p).tag 5 with
  | false => rw [ifB_false ht] at hg; exact (not_good _ hg).elim
  | true =>
    rw [ifB_true rfl]
    have hpp := tag_ptr (Nat.eq_of_beq_eq_true ht)
    refine ⟨1, .ptr (V.of p).a ((V.of p).b + fd.offset), h, evalOp_pure (by unfold kindOf; rw [ho]) ?_, rfl⟩
    unfold pureOp; rw [ho]
    simp only [hp]
    rw [hpp]
    simp only [fieldAddrA, hu, hfd, hs]
    rfl

theorem chkA_good {x : AVal} {k : Out} (hg : Good (chkA x k)) : chkA x k = k ∧ ((∃ b o, x = .ptr b o) ∨ (∃ b o, x = .gptr b o) ∨ (∃ t v, x = .iface t v) ∨ ∃ f a c, x = .func (.func f) a c) := by
  cases x with
  | ptr b o => exact ⟨rfl, .inl ⟨b, o, rfl⟩⟩
  | gptr b o => exact ⟨rfl, .inr (.inl ⟨b, o, rfl⟩)⟩
  | iface t v => exact ⟨rfl, .inr (.inr (.inl ⟨t, v, rfl⟩))⟩
  | func fn a c => cases fn with
    | func f => exact ⟨rfl, .inr (.inr (.inr ⟨f, a, c, rfl⟩))⟩
    | _ => exact (not_good _ hg).elim
  | _ => exact (not_good _ hg).elim
theorem jChk_ok {x : Operand} {y : XF n} (ho : o.op = .nilCheck x) (hx : XOk loc n cs gs x y) : JOk P G H loc n cs gs o (jChk y) := by
  intro call hc f fr L h k inv hgs hg
  obtain ⟨p, hp, hye⟩ := hx f fr L inv hgs
  have hrun : (jChk y).run ⟨P, G, H, call⟩ fr L h k = ifB (Nat.beq (V.of p).tag 5) (k (V.of p) h) (chkA (V.of p).v (k (V.of p) h)) := by rw [← hye]; rfl
  rw [hrun] at hg ⊢
  have hk : kindOf P o = .pure := by unfold kindOf; rw [ho]
  have key : ((∃ b o, p = .ptr b o) ∨ (∃ b o, p = .gptr b o) ∨ (∃ t v, p = .iface t v) ∨ ∃ f a c, p = .func (.func f) a c) → pureOp P f o = some p := by
    intro hh
    unfold pureOp; rw [ho]
    simp only [hp]
    rcases hh with ⟨b, q, rfl⟩ | ⟨b, q, rfl⟩ | ⟨t, v, rfl⟩ | ⟨g, a, c, rfl⟩ <;> rfl
  cases ht : Nat.beq (V.of p).tag 5 with
  | false =>
    rw [ifB_false ht] at hg; rw [ifB_false rfl]
    rw [V.of_v] at hg ⊢
    obtain ⟨hr, hh⟩ := chkA_good hg
    exact ⟨1, p, h, evalOp_pure hk (key hh), hr⟩
  | true =>
    rw [ifB_true rfl]
    exact ⟨1, p, h, evalOp_pure hk (key (.inl ⟨_, _, tag_ptr (Nat.eq_of_beq_eq_true ht)⟩)), rfl⟩
theorem jNot_ok {t : TypeId} {x : Operand} {y : XF n} (ho : o.op = .unOp .not t x) (hx : XOk loc n cs gs x y) : JOk P G H loc n cs gs o (jNot y) := by
  intro call hc f fr L h k inv hgs hg
  obtain ⟨p, hp, hye⟩ := hx f fr L inv hgs
  have hrun : (jNot y).run ⟨P, G, H, call⟩ fr L h k = ifB (Nat.beq (V.of p).tag 1) (k (V.ofB (Bool.rec true false (V.of p).t)) h) (.bad 29) := by rw [← hye]; rfl
  rw [hrun] at hg ⊢
  cases ht : Nat.beq (V.of p).tag 1 with
  | false => rw [ifB_false ht] at hg; exact (not_good _ hg).elim
  | true =>
    rw [ifB_true rfl]
    have hpp := tag_bool (Nat.eq_of_beq_eq_true ht)
    refine ⟨1, .bool (!(V.of p).t), h, evalOp_pure (by unfold kindOf; rw [ho]) ?_, ?_⟩
    · unfold pureOp; rw [ho]
      simp only [hp]
      rw [hpp]; rfl
    · cases (V.of p).t <;> rfl
end
end
end Go.Ae
/- Operations on numbers and texts, places in rows, calls; then whatever the compiler makes of an operation. No condition. -/
set_option linter.unusedVariables false
set_option linter.unusedSimpArgs false
namespace Go.Ae
open Go
noncomputable section

theorem wrap_i64 {m : Nat} (h : m < 9223372036854775808) : IntKind.i64.wrap (Int.ofNat m) = Int.ofNat m := by
  have e1 : (2 ^ IntKind.i64.bits : Int) = 18446744073709551616 := by decide
  have e2 : (2 ^ (IntKind.i64.bits - 1) : Int) = 9223372036854775808 := by decide
  unfold IntKind.wrap
  simp only [e1, e2]
  have e3 : (Int.ofNat m) % 18446744073709551616 = Int.ofNat m := Int.emod_eq_of_lt (by simp) (by simp; omega)
  rw [e3]
  split
  · rename_i hc
    simp at hc
    omega
  · rfl
theorem ofNat_blt (a b : Nat) : (decide (Int.ofNat a < Int.ofNat b)) = Nat.blt a b := by
  rw [Bool.eq_iff_iff, decide_eq_true_iff, Nat.blt_eq]; simp
theorem ofNat_ble (a b : Nat) : (decide (Int.ofNat a ≤ Int.ofNat b)) = Nat.ble a b := by
  rw [Bool.eq_iff_iff, decide_eq_true_iff, Nat.ble_eq]; simp
theorem ofNat_beq (a b : Nat) : (Int.ofNat a == Int.ofNat b) = Nat.beq a b := by
  rw [Bool.eq_iff_iff]; simp; exact Int.ofNat_inj

section
variable {P : Program} {G : Nat → Option AVal} {H : Hook} {loc n : Nat} {cs : CS} {gs : List Gd} {o : Oper}

theorem kind_bin_int {op : BinOp} {t zt : TypeId} {x y : Operand} {k : IntKind} (ho : o.op = .binOp op t x y zt) (hu : und P t = some (.int k)) : kindOf P o = .pure := by
  unfold kindOf; rw [ho]; cases op <;> simp [hu]
theorem kind_bin_str {op : BinOp} {t zt : TypeId} {x y : Operand} (ho : o.op = .binOp op t x y zt) (hu : und P t = some .string) : kindOf P o = .pure := by
  unfold kindOf; rw [ho]; cases op <;> simp [hu]

theorem jCmp_ok {op : BinOp} {t zt : TypeId} {x y : Operand} {k : IntKind} {fn : Nat → Nat → Bool} {a b : XF n} (ho : o.op = .binOp op t x y zt) (hu : und P t = some (.int k)) (hx : XOk loc n cs gs x a) (hy : XOk loc n cs gs y b)
    (hop : ∀ (lit : Bool) (k : IntKind) (i j : Nat), binA P op lit t (.int k (.ofNat i)) (.int k (.ofNat j)) = some (.bool (fn i j))) : JOk P G H loc n cs gs o (jCmp fn a b (slowS loc n cs gs o)) := by
  intro call hc f fr L h K inv hgs hg
  obtain ⟨p, hp, hae⟩ := hx f fr L inv hgs
  obtain ⟨q, hq, hbe⟩ := hy f fr L inv hgs
  have hrun : (jCmp fn a b (slowS loc n cs gs o)).run ⟨P, G, H, call⟩ fr L h K = ifB (Nat.beq (V.of p).tag (V.of q).tag) (ifB (Nat.ble 10 (V.of p).tag) (K (V.ofB (fn (V.of p).a (V.of q).a)) h) (slowK (slowS loc n cs gs o) ⟨P, G, H, call⟩ fr L h K)) (slowK (slowS loc n cs gs o) ⟨P, G, H, call⟩ fr L h K) := by
    rw [← hae, ← hbe]; rfl
  rw [hrun] at hg ⊢
  cases h1 : Nat.beq (V.of p).tag (V.of q).tag with
  | false => rw [ifB_false h1] at hg; rw [ifB_false rfl]; exact slowK_sound hc inv hgs hg
  | true =>
    rw [ifB_true h1] at hg; rw [ifB_true rfl]
    cases h2 : Nat.ble 10 (V.of p).tag with
    | false => rw [ifB_false h2] at hg; rw [ifB_false rfl]; exact slowK_sound hc inv hgs hg
    | true =>
      rw [ifB_true rfl]
      have e1 := Nat.eq_of_beq_eq_true h1
      have e2 := Nat.le_of_ble_eq_true h2
      obtain ⟨k1, hp1, hk1⟩ := tag_int (x := p) e2
      obtain ⟨k2, hq1, hk2⟩ := tag_int (x := q) (by omega)
      have : k1 = k2 := kcode_inj (by rw [← hk1, ← hk2, e1])
      subst this
      refine ⟨1, .bool (fn (V.of p).a (V.of q).a), h, evalOp_pure (kind_bin_int ho hu) ?_, rfl⟩
      unfold pureOp; rw [ho]
      simp only [hp, hq]
      rw [hp1, hq1, hop]
      rfl
theorem jAdd_ok {t zt : TypeId} {x y : Operand} {k : IntKind} {a b : XF n} (ho : o.op = .binOp .add t x y zt) (hu : und P t = some (.int k)) (hx : XOk loc n cs gs x a) (hy : XOk loc n cs gs y b) : JOk P G H loc n cs gs o (jAdd a b (slowS loc n cs gs o)) := by
  intro call hc f fr L h K inv hgs hg
  obtain ⟨p, hp, hae⟩ := hx f fr L inv hgs
  obtain ⟨q, hq, hbe⟩ := hy f fr L inv hgs
  have hrun : (jAdd a b (slowS loc n cs gs o)).run ⟨P, G, H, call⟩ fr L h K = ifB (Nat.beq (V.of p).tag 13) (ifB (Nat.beq (V.of q).tag 13) (ifB (Nat.blt (Nat.add (V.of p).a (V.of q).a) 9223372036854775808) (K (V.ofI (Nat.add (V.of p).a (V.of q).a)) h) (slowK (slowS loc n cs gs o) ⟨P, G, H, call⟩ fr L h K)) (slowK (slowS loc n cs gs o) ⟨P, G, H, call⟩ fr L h K)) (slowK (slowS loc n cs gs o) ⟨P, G, H, call⟩ fr L h K) := by
    rw [← hae, ← hbe]; rfl
  rw [hrun] at hg ⊢
  cases h1 : Nat.beq (V.of p).tag 13 with
  | false => rw [ifB_false h1] at hg; rw [ifB_false rfl]; exact slowK_sound hc inv hgs hg
  | true => cases h2 : Nat.beq (V.of q).tag 13 with
    | false => rw [ifB_true h1, ifB_false h2] at hg; rw [ifB_true rfl, ifB_false rfl]; exact slowK_sound hc inv hgs hg
    | true => cases h3 : Nat.blt (Nat.add (V.of p).a (V.of q).a) 9223372036854775808 with
      | false => rw [ifB_true h1, ifB_true h2, ifB_false h3] at hg; rw [ifB_true rfl, ifB_true rfl, ifB_false rfl]; exact slowK_sound hc inv hgs hg
      | true =>
        rw [ifB_true rfl, ifB_true rfl, ifB_true rfl]
        have hp1 := tag_i64 (Nat.eq_of_beq_eq_true h1)
        have hq1 := tag_i64 (Nat.eq_of_beq_eq_true h2)
        refine ⟨1, .int .i64 (.ofNat (Nat.add (V.of p).a (V.of q).a)), h, evalOp_pure (kind_bin_int ho hu) ?_, rfl⟩
        unfold pureOp; rw [ho]
        simp only [hp, hq]
        rw [hp1, hq1]
        simp only [binA, beq_self_eq_true, cond_true, fitI]
        have : Int.ofNat (V.of p).a + Int.ofNat (V.of q).a = Int.ofNat (Nat.add (V.of p).a (V.of q).a) := rfl
        rw [this, wrap_i64 (blt_true h3)]
        rfl
theorem jSub_ok {t zt : TypeId} {x y : Operand} {k : IntKind} {a b : XF n} (ho : o.op = .binOp .sub t x y zt) (hu : und P t = some (.int k)) (hx : XOk loc n cs gs x a) (hy : XOk loc n cs gs y b) : JOk P G H loc n cs gs o (jSub a b (slowS loc n cs gs o)) := by
  intro call hc f fr L h K inv hgs hg
  obtain ⟨p, hp, hae⟩ := hx f fr L inv hgs
  obtain ⟨q, hq, hbe⟩ := hy f fr L inv hgs
  have hrun : (jSub a b (slowS loc n cs gs o)).run ⟨P, G, H, call⟩ fr L h K = ifB (Nat.beq (V.of p).tag 13) (ifB (Nat.beq (V.of q).tag 13) (ifB (Nat.ble (V.of q).a (V.of p).a) (ifB (Nat.blt (V.of p).a 9223372036854775808) (K (V.ofI (Nat.sub (V.of p).a (V.of q).a)) h) (slowK (slowS loc n cs gs o) ⟨P, G, H, call⟩ fr L h K)) (slowK (slowS loc n cs gs o) ⟨P, G, H, call⟩ fr L h K)) (slowK (slowS loc n cs gs o) ⟨P, G, H, call⟩ fr L h K)) (slowK (slowS loc n cs gs o) ⟨P, G, H, call⟩ fr L h K) := by
    rw [← hae, ← hbe]; rfl
  rw [hrun] at hg ⊢
  cases h1 : Nat.beq (V.of p).tag 13 with
  | false => rw [ifB_false h1] at hg; rw [ifB_false rfl]; exact slowK_sound hc inv hgs hg
  | true => cases h2 : Nat.beq (V.of q).tag 13 with
    | false => rw [ifB_true h1, ifB_false h2] at hg; rw [ifB_true rfl, ifB_false rfl]; exact slowK_sound hc inv hgs hg
    | true => cases h3 : Nat.ble (V.of q).a (V.of p).a with
      | false => rw [ifB_true h1, ifB_true h2, ifB_false h3] at hg; rw [ifB_true rfl, ifB_true rfl, ifB_false rfl]; exact slowK_sound hc inv hgs hg
      | true => cases h4 : Nat.blt (V.of p).a 9223372036854775808 with
        | false => rw [ifB_true h1, ifB_true h2, ifB_true h3, ifB_false h4] at hg; rw [ifB_true rfl, ifB_true rfl, ifB_true rfl, ifB_false rfl]; exact slowK_sound hc inv hgs hg
        | true =>
          rw [ifB_true rfl, ifB_true rfl, ifB_true rfl, ifB_true rfl]
          have hp1 := tag_i64 (Nat.eq_of_beq_eq_true h1)
          have hq1 := tag_i64 (Nat.eq_of_beq_eq_true h2)
          have hle := Nat.le_of_ble_eq_true h3
          have hlt := blt_true h4
          refine ⟨1, .int .i64 (.ofNat (Nat.sub (V.of p).a (V.of q).a)), h, evalOp_pure (kind_bin_int ho hu) ?_, rfl⟩
          unfold pureOp; rw [ho]
          simp only [hp, hq]
          rw [hp1, hq1]
          simp only [binA, beq_self_eq_true, cond_true, fitI]
          have : Int.ofNat (V.of p).a - Int.ofNat (V.of q).a = Int.ofNat (Nat.sub (V.of p).a (V.of q).a) := by
            show _ = Int.ofNat ((V.of p).a - (V.of q).a)
            simp only [Int.ofNat_eq_natCast]; omega
          rw [this, wrap_i64 (m := Nat.sub (V.of p).a (V.of q).a) (Nat.lt_of_le_of_lt (Nat.sub_le _ _) hlt)]
          rfl
theorem jSeq_ok {op : BinOp} {t zt : TypeId} {x y : Operand} {neg : Bool} {a b : XF n} (ho : o.op = .binOp op t x y zt) (hop : op = if neg then .neq else .eql) (hu : und P t = some .string) (hx : XOk loc n cs gs x a) (hy : XOk loc n cs gs y b) :
    JOk P G H loc n cs gs o (jSeq neg a b (slowS loc n cs gs o)) := by
  intro call hc f fr L h K inv hgs hg
  obtain ⟨p, hp, hae⟩ := hx f fr L inv hgs
  obtain ⟨q, hq, hbe⟩ := hy f fr L inv hgs
  have hrun : (jSeq neg a b (slowS loc n cs gs o)).run ⟨P, G, H, call⟩ fr L h K = ifB (Nat.beq (V.of p).tag 4) (ifB (Nat.beq (V.of q).tag 4)
      (Bool.rec (K (V.ofB neg) h) (K (V.ofB (Bool.rec neg (Bool.rec true false neg) (Nat.beq (V.of p).b (V.of q).b))) h) (Nat.beq (V.of p).a (V.of q).a)) (slowK (slowS loc n cs gs o) ⟨P, G, H, call⟩ fr L h K)) (slowK (slowS loc n cs gs o) ⟨P, G, H, call⟩ fr L h K) := by
    rw [← hae, ← hbe]; rfl
  rw [hrun] at hg ⊢
  cases h1 : Nat.beq (V.of p).tag 4 with
  | false => rw [ifB_false h1] at hg; rw [ifB_false rfl]; exact slowK_sound hc inv hgs hg
  | true => cases h2 : Nat.beq (V.of q).tag 4 with
    | false => rw [ifB_true h1, ifB_false h2] at hg; rw [ifB_true rfl, ifB_false rfl]; exact slowK_sound hc inv hgs hg
    | true =>
      rw [ifB_true rfl, ifB_true rfl]
      have hp1 := tag_str (Nat.eq_of_beq_eq_true h1)
      have hq1 := tag_str (Nat.eq_of_beq_eq_true h2)
      have hb : ∀ lit, binA P op lit t p q = some (.bool (Bool.rec (Nat.beq (V.of p).a (V.of q).a && Nat.beq (V.of p).b (V.of q).b) (!(Nat.beq (V.of p).a (V.of q).a && Nat.beq (V.of p).b (V.of q).b)) neg)) := by
        intro lit
        generalize hpa : (V.of p).a = pa at hp1 ⊢
        generalize hpb : (V.of p).b = pb at hp1 ⊢
        generalize hqa : (V.of q).a = qa at hq1 ⊢
        generalize hqb : (V.of q).b = qb at hq1 ⊢
        subst hp1; subst hq1; subst hop
        cases neg <;> rfl
      refine ⟨1, _, h, evalOp_pure (kind_bin_str ho hu) (by unfold pureOp; rw [ho]; simp only [hp, hq]; exact hb _), ?_⟩
      cases Nat.beq (V.of p).a (V.of q).a <;> cases neg <;> first | rfl | (cases Nat.beq (V.of p).b (V.of q).b <;> rfl)
theorem jCat_ok {t zt : TypeId} {x y : Operand} {a b : XF n} (ho : o.op = .binOp .add t x y zt) (hu : und P t = some .string) (hx : XOk loc n cs gs x a) (hy : XOk loc n cs gs y b) : JOk P G H loc n cs gs o (jCat a b (slowS loc n cs gs o)) := by
  intro call hc f fr L h K inv hgs hg
  obtain ⟨p, hp, hae⟩ := hx f fr L inv hgs
  obtain ⟨q, hq, hbe⟩ := hy f fr L inv hgs
  have hrun : (jCat a b (slowS loc n cs gs o)).run ⟨P, G, H, call⟩ fr L h K = ifB (Nat.beq (V.of p).tag 4) (ifB (Nat.beq (V.of q).tag 4) (ifB (Nat.ble (Nat.add (V.of p).a (V.of q).a) 4611686018427387904)
      (K (V.ofS (Nat.add (V.of p).a (V.of q).a) (Nat.add (V.of p).b (Nat.shiftLeft (V.of q).b (Nat.mul 8 (V.of p).a)))) h) (slowK (slowS loc n cs gs o) ⟨P, G, H, call⟩ fr L h K)) (slowK (slowS loc n cs gs o) ⟨P, G, H, call⟩ fr L h K)) (slowK (slowS loc n cs gs o) ⟨P, G, H, call⟩ fr L h K) := by
    rw [← hae, ← hbe]; rfl
  rw [hrun] at hg ⊢
  cases h1 : Nat.beq (V.of p).tag 4 with
  | false => rw [ifB_false h1] at hg; rw [ifB_false rfl]; exact slowK_sound hc inv hgs hg
  | true => cases h2 : Nat.beq (V.of q).tag 4 with
    | false => rw [ifB_true h1, ifB_false h2] at hg; rw [ifB_true rfl, ifB_false rfl]; exact slowK_sound hc inv hgs hg
    | true => cases h3 : Nat.ble (Nat.add (V.of p).a (V.of q).a) 4611686018427387904 with
      | false => rw [ifB_true h1, ifB_true h2, ifB_false h3] at hg; rw [ifB_true rfl, ifB_true rfl, ifB_false rfl]; exact slowK_sound hc inv hgs hg
      | true =>
        rw [ifB_true rfl, ifB_true rfl, ifB_true rfl]
        have hp1 := tag_str (Nat.eq_of_beq_eq_true h1)
        have hq1 := tag_str (Nat.eq_of_beq_eq_true h2)
        refine ⟨1, .str (Nat.add (V.of p).a (V.of q).a) (Nat.add (V.of p).b (Nat.shiftLeft (V.of q).b (Nat.mul 8 (V.of p).a))), h, evalOp_pure (kind_bin_str ho hu) ?_, rfl⟩
        unfold pureOp; rw [ho]
        simp only [hp, hq]
        generalize hpa : (V.of p).a = pa at hp1 h3 ⊢
        generalize hpb : (V.of p).b = pb at hp1 ⊢
        generalize hqa : (V.of q).a = qa at hq1 h3 ⊢
        generalize hqb : (V.of q).b = qb at hq1 ⊢
        subst hp1; subst hq1
        have e : (pa + qa).ble (2 ^ 62) = true := h3
        simp only [binA, e, cond_true]
        rfl
theorem cmp_eq (t : TypeId) (lit : Bool) (k : IntKind) (i j : Nat) : binA P .eql lit t (.int k (.ofNat i)) (.int k (.ofNat j)) = some (.bool (Nat.beq i j)) := by
  simp only [binA, beq_self_eq_true, cond_true, cmpA, ofNat_beq]
theorem cmp_ne (t : TypeId) (lit : Bool) (k : IntKind) (i j : Nat) : binA P .neq lit t (.int k (.ofNat i)) (.int k (.ofNat j)) = some (.bool (Bool.rec true false (Nat.beq i j))) := by
  simp only [binA, beq_self_eq_true, cond_true, cmpA, bne, ofNat_beq]
  cases Nat.beq i j <;> rfl
theorem cmp_lt (t : TypeId) (lit : Bool) (k : IntKind) (i j : Nat) : binA P .lss lit t (.int k (.ofNat i)) (.int k (.ofNat j)) = some (.bool (Nat.blt i j)) := by
  simp only [binA, beq_self_eq_true, cond_true, cmpA, ofNat_blt]
theorem cmp_le (t : TypeId) (lit : Bool) (k : IntKind) (i j : Nat) : binA P .leq lit t (.int k (.ofNat i)) (.int k (.ofNat j)) = some (.bool (Nat.ble i j)) := by
  simp only [binA, beq_self_eq_true, cond_true, cmpA, ofNat_ble]
theorem cmp_gt (t : TypeId) (lit : Bool) (k : IntKind) (i j : Nat) : binA P .gtr lit t (.int k (.ofNat i)) (.int k (.ofNat j)) = some (.bool (Nat.blt j i)) := by
  simp only [binA, beq_self_eq_true, cond_true, cmpA, GT.gt, ofNat_blt]
theorem cmp_ge (t : TypeId) (lit : Bool) (k : IntKind) (i j : Nat) : binA P .geq lit t (.int k (.ofNat i)) (.int k (.ofNat j)) = some (.bool (Nat.ble j i)) := by
  simp only [binA, beq_self_eq_true, cond_true, cmpA, GE.ge, ofNat_ble]
theorem binC_ok {op : BinOp} {t zt : TypeId} {x y : Operand} (ho : o.op = .binOp op t x y zt) : JOk P G H loc n cs gs o (binC n loc P cs gs o op t x y) := by
  unfold binC
  split
  · rename_i k hu
    refine res_ok (jBad_ok _) fun a ha => res_ok (jBad_ok _) fun b hb => ?_
    cases op with
    | eql => exact jCmp_ok ho hu ha hb (cmp_eq t)
    | neq => exact jCmp_ok ho hu ha hb (cmp_ne t)
    | lss => exact jCmp_ok ho hu ha hb (cmp_lt t)
    | leq => exact jCmp_ok ho hu ha hb (cmp_le t)
    | gtr => exact jCmp_ok ho hu ha hb (cmp_gt t)
    | geq => exact jCmp_ok ho hu ha hb (cmp_ge t)
    | add => exact jAdd_ok ho hu ha hb
    | sub => exact jSub_ok ho hu ha hb
    | _ => exact jSlow_ok
  · rename_i hu
    refine res_ok (jBad_ok _) fun a ha => res_ok (jBad_ok _) fun b hb => ?_
    cases op with
    | eql => exact jSeq_ok (neg := false) ho rfl hu ha hb
    | neq => exact jSeq_ok (neg := true) ho rfl hu ha hb
    | add => exact jCat_ok ho hu ha hb
    | _ => exact jSlow_ok
  · exact jSlow_ok

theorem jExtract_ok {x : Operand} {i : Nat} {y : XF n} (ho : o.op = .extract x i) (hx : XOk loc n cs gs x y) : JOk P G H loc n cs gs o (jExtract y i) := by
  intro call hc f fr L h k inv hgs hg
  obtain ⟨p, hp, hye⟩ := hx f fr L inv hgs
  have hrun : (jExtract y i).run ⟨P, G, H, call⟩ fr L h k = Option.rec (motive := fun _ => Out) (.bad 30) (fun v => k (V.of v) h) (nthG (partsV (V.of p).v) i) := by rw [← hye]; rfl
  rw [hrun] at hg ⊢
  rw [V.of_v, nthG_eq] at hg ⊢
  cases hv : (partsV p)[i]? with
  | none => rw [hv] at hg; exact (not_good _ hg).elim
  | some v =>
    refine ⟨1, v, h, evalOp_pure (by unfold kindOf; rw [ho]) ?_, rfl⟩
    unfold pureOp; rw [ho]
    simp only [hp]
    cases p with
    | tuple vs => exact hv
    | _ => exact absurd hv (by show ([] : List AVal)[i]? ≠ _; simp)
theorem jIdxS_ok {t : TypeId} {x i : Operand} {a b : XF n} (ho : o.op = .index t x i) (hu : und P t = some .string) (hx : XOk loc n cs gs x a) (hi : XOk loc n cs gs i b) : JOk P G H loc n cs gs o (jIdxS a b) := by
  intro call hc f fr L h k inv hgs hg
  obtain ⟨p, hp, hae⟩ := hx f fr L inv hgs
  obtain ⟨q, hq, hbe⟩ := hi f fr L inv hgs
  have hrun : (jIdxS a b).run ⟨P, G, H, call⟩ fr L h k = ifB (Nat.beq (V.of p).tag 4) (ifB (Nat.ble 10 (V.of q).tag) (ifB (Nat.blt (V.of q).a (V.of p).a) (k (V.ofU8 (Nat.mod (Nat.shiftRight (V.of p).b (Nat.mul 8 (V.of q).a)) 256)) h) (.bad 31)) (.bad 32)) (.bad 33) := by
    rw [← hae, ← hbe]; rfl
  rw [hrun] at hg ⊢
  cases h1 : Nat.beq (V.of p).tag 4 with
  | false => rw [ifB_false h1] at hg; exact (not_good _ hg).elim
  | true => cases h2 : Nat.ble 10 (V.of q).tag with
    | false => rw [ifB_true h1, ifB_false h2] at hg; exact (not_good _ hg).elim
    | true => cases h3 : Nat.blt (V.of q).a (V.of p).a with
      | false => rw [ifB_true h1, ifB_true h2, ifB_false h3] at hg; exact (not_good _ hg).elim
      | true =>
        rw [ifB_true rfl, ifB_true rfl, ifB_true rfl]
        have hp1 := tag_str (Nat.eq_of_beq_eq_true h1)
        obtain ⟨k2, hq1, _⟩ := tag_int (x := q) (Nat.le_of_ble_eq_true h2)
        refine ⟨1, .int .u8 (.ofNat (Nat.mod (Nat.shiftRight (V.of p).b (Nat.mul 8 (V.of q).a)) 256)), h, evalOp_pure (by unfold kindOf; rw [ho]) ?_, rfl⟩
        unfold pureOp; rw [ho]
        simp only [hp, hq]
        rw [hp1, hq1]
        have hlt := blt_true h3
        unfold indexA
        rw [hu]
        have hcnd : (decide (0 ≤ Int.ofNat (V.of q).a) && decide (Int.ofNat (V.of q).a < ((V.of p).a : Int))) = true := by simp; exact hlt
        simp only [hcnd, cond_true]
        rfl
theorem jIdxA_ok {t e : TypeId} {size : Nat} {x i : Operand} {a b : XF n} (ho : o.op = .indexAddr t x i) (hu : und P t = some (.slice e)) (hs : sizeT P e = some size) (hx : XOk loc n cs gs x a) (hi : XOk loc n cs gs i b) : JOk P G H loc n cs gs o (jIdxA size a b) := by
  intro call hc f fr L h k inv hgs hg
  obtain ⟨p, hp, hae⟩ := hx f fr L inv hgs
  obtain ⟨q, hq, hbe⟩ := hi f fr L inv hgs
  have hrun : (jIdxA size a b).run ⟨P, G, H, call⟩ fr L h k = ifB (Nat.beq (V.of p).tag 6) (ifB (Nat.ble 10 (V.of q).tag) (ifB (Nat.blt (V.of q).a (V.of p).c) (ifB (Nat.beq size (V.of p).d) (k (V.ofP (V.of p).a (Nat.add (V.of p).b (Nat.mul (V.of q).a size))) h) (.bad 34)) (.bad 35)) (.bad 36)) (.bad 37) := by
    rw [← hae, ← hbe]; rfl
  rw [hrun] at hg ⊢
  cases h1 : Nat.beq (V.of p).tag 6 with
  | false => rw [ifB_false h1] at hg; exact (not_good _ hg).elim
  | true => cases h2 : Nat.ble 10 (V.of q).tag with
    | false => rw [ifB_true h1, ifB_false h2] at hg; exact (not_good _ hg).elim
    | true => cases h3 : Nat.blt (V.of q).a (V.of p).c with
      | false => rw [ifB_true h1, ifB_true h2, ifB_false h3] at hg; exact (not_good _ hg).elim
      | true => cases h4 : Nat.beq size (V.of p).d with
        | false => rw [ifB_true h1, ifB_true h2, ifB_true h3, ifB_false h4] at hg; exact (not_good _ hg).elim
        | true =>
          rw [ifB_true rfl, ifB_true rfl, ifB_true rfl, ifB_true rfl]
          obtain ⟨cap, ex, hp1⟩ := tag_slice (Nat.eq_of_beq_eq_true h1)
          obtain ⟨k2, hq1, _⟩ := tag_int (x := q) (Nat.le_of_ble_eq_true h2)
          refine ⟨1, .ptr (V.of p).a (Nat.add (V.of p).b (Nat.mul (V.of q).a size)), h, evalOp_pure (by unfold kindOf; rw [ho]) ?_, rfl⟩
          unfold pureOp; rw [ho]
          simp only [hp, hq]
          rw [hp1, hq1]
          have hlt := blt_true h3
          unfold indexAddrA
          rw [hu]
          have hcnd : (decide (0 ≤ Int.ofNat (V.of q).a) && decide (Int.ofNat (V.of q).a < ((V.of p).c : Int)) && Nat.beq size (V.of p).d) = true := by rw [h4]; simp; exact hlt
          simp only [hs, hcnd, cond_true]
          rfl
theorem kind_len {c : Call} {t : TypeId} {ts : List TypeId} (ho : o.op = .call c) (hb : c.callee = .builtin .len) (ht : c.argTypes.toList = t :: ts) (hu : ∀ k e, und P t ≠ some (.map k e)) : kindOf P o = .pure := by
  unfold kindOf
  rw [ho]
  have : c.argTypes[0]? = some t := by rw [← Array.getElem?_toList, ht]; rfl
  simp only [hb, this, Option.bind_some]
theorem jLenS_ok {c : Call} {x : Operand} {t : TypeId} {ts : List TypeId} {y : XF n} (ho : o.op = .call c) (hb : c.callee = .builtin .len) (ha : c.args.toList = [x]) (ht : c.argTypes.toList = t :: ts) (hu : und P t = some .string) (hx : XOk loc n cs gs x y) :
    JOk P G H loc n cs gs o (jLenS y (slowS loc n cs gs o)) := by
  intro call hc f fr L h k inv hgs hg
  obtain ⟨p, hp, hye⟩ := hx f fr L inv hgs
  have hrun : (jLenS y (slowS loc n cs gs o)).run ⟨P, G, H, call⟩ fr L h k = ifB (Nat.beq (V.of p).tag 4) (k (V.ofI (V.of p).a) h) (slowK (slowS loc n cs gs o) ⟨P, G, H, call⟩ fr L h k) := by rw [← hye]; rfl
  rw [hrun] at hg ⊢
  cases h1 : Nat.beq (V.of p).tag 4 with
  | false => rw [ifB_false h1] at hg; rw [ifB_false rfl]; exact slowK_sound hc inv hgs hg
  | true =>
    rw [ifB_true rfl]
    have hp1 := tag_str (Nat.eq_of_beq_eq_true h1)
    refine ⟨1, .int .i64 (.ofNat (V.of p).a), h, evalOp_pure (kind_len ho hb ht fun k e => by rw [hu]; simp) ?_, rfl⟩
    unfold pureOp; rw [ho]
    simp only [hb, ha, opdsA, hp, ht, Option.pure_def, Option.bind_eq_bind, Option.bind_some]
    rw [hp1]
    simp only [pureBuiltin, hu]
    rfl
theorem jLenL_ok {c : Call} {x : Operand} {t e : TypeId} {ts : List TypeId} {y : XF n} (ho : o.op = .call c) (hb : c.callee = .builtin .len) (ha : c.args.toList = [x]) (ht : c.argTypes.toList = t :: ts) (hu : und P t = some (.slice e)) (hx : XOk loc n cs gs x y) :
    JOk P G H loc n cs gs o (jLenL y (slowS loc n cs gs o)) := by
  intro call hc f fr L h k inv hgs hg
  obtain ⟨p, hp, hye⟩ := hx f fr L inv hgs
  have hrun : (jLenL y (slowS loc n cs gs o)).run ⟨P, G, H, call⟩ fr L h k = ifB (Nat.beq (V.of p).tag 6) (k (V.ofI (V.of p).c) h) (ifB (Nat.beq (V.of p).tag 7) (k (V.ofI 0) h) (slowK (slowS loc n cs gs o) ⟨P, G, H, call⟩ fr L h k)) := by rw [← hye]; rfl
  rw [hrun] at hg ⊢
  have hk : kindOf P o = .pure := kind_len ho hb ht fun k e => by rw [hu]; simp
  cases h1 : Nat.beq (V.of p).tag 6 with
  | false => cases h2 : Nat.beq (V.of p).tag 7 with
    | false => rw [ifB_false h1, ifB_false h2] at hg; rw [ifB_false rfl, ifB_false rfl]; exact slowK_sound hc inv hgs hg
    | true =>
      rw [ifB_false rfl, ifB_true rfl]
      have hp1 := tag_nilslice (Nat.eq_of_beq_eq_true h2)
      refine ⟨1, .int .i64 (.ofNat 0), h, evalOp_pure hk ?_, rfl⟩
      unfold pureOp; rw [ho]
      simp only [hb, ha, opdsA, hp, ht, Option.pure_def, Option.bind_eq_bind, Option.bind_some]
      rw [hp1]
      simp only [pureBuiltin, hu]
      rfl
  | true =>
    rw [ifB_true rfl]
    obtain ⟨cap, ex, hp1⟩ := tag_slice (Nat.eq_of_beq_eq_true h1)
    refine ⟨1, .int .i64 (.ofNat (V.of p).c), h, evalOp_pure hk ?_, rfl⟩
    unfold pureOp; rw [ho]
    simp only [hb, ha, opdsA, hp, ht, Option.pure_def, Option.bind_eq_bind, Option.bind_some]
    rw [hp1]
    simp only [pureBuiltin, hu]
    rfl
theorem evalOp_call {f : T AVal} {h : Hp} {c : Call} {g : FuncId} {args : List AVal} {m : Nat} {r : AVal × Hp} (ho : o.op = .call c) (hb : ∀ b, c.callee ≠ .builtin b) (ht : targetA P f c = some (g, args)) (he : evalCall P G H m g args h = some r) : evalOp P G H (m + 1) f h o = some r := by
  have hk : kindOf P o = .eff := by
    unfold kindOf; rw [ho]
    cases hc : c.callee with
    | builtin b => exact absurd hc (hb b)
    | _ => simp [hc]
  unfold evalOp
  rw [hk]
  simp only [ho]
  cases hcal : c.callee with
  | builtin b => exact absurd hcal (hb b)
  | _ => simp only [ht]; exact he
theorem jCall_ok {c : Call} {g : FuncId} {ys : List (XF n)} (ho : o.op = .call c) (hb : c.callee = .value (.func g)) (hx : XsOk loc n cs gs c.args.toList ys) : JOk P G H loc n cs gs o (jCall g ys) := by
  intro call hc f fr L h k inv hgs hg
  obtain ⟨e1, e2⟩ := hx.ev inv hgs
  have hrun : (jCall g ys).run ⟨P, G, H, call⟩ fr L h k = call g (evL ys fr L) (frOf (evL ys fr L) 0 .e) h k := by rw [← e2]; rfl
  rw [hrun] at hg ⊢
  obtain ⟨m, v, h', he, hr⟩ := hc _ _ _ _ hg
  refine ⟨m + 1, v, h', evalOp_call ho (fun b => by rw [hb]; simp) ?_ he, hr⟩
  unfold targetA
  simp only [e1, hb, opdA]
  simp
theorem funcA_good {x : AVal} {k : FuncId → List AVal → List AVal → Out} (hg : Good (funcA x k)) : ∃ g a c, x = .func (.func g) a c ∧ funcA x k = k g a c := by
  cases x with
  | func fn a c => cases fn with
    | func g => exact ⟨g, a, c, rfl, rfl⟩
    | _ => exact (not_good _ hg).elim
  | _ => exact (not_good _ hg).elim
theorem jCallv_ok {c : Call} {x : Operand} {y : XF n} {ys : List (XF n)} (ho : o.op = .call c) (hb : c.callee = .value x) (hx : XOk loc n cs gs x y) (hxs : XsOk loc n cs gs c.args.toList ys) : JOk P G H loc n cs gs o (jCallv y ys) := by
  intro call hc f fr L h k inv hgs hg
  obtain ⟨p, hp, hye⟩ := hx f fr L inv hgs
  obtain ⟨e1, e2⟩ := hxs.ev inv hgs
  have hrun : (jCallv y ys).run ⟨P, G, H, call⟩ fr L h k = funcA p (fun f a c => call f (a ++ evL ys fr L ++ c) (frOf (a ++ evL ys fr L ++ c) 0 .e) h k) := by
    show funcA (y.ev fr L).v _ = _
    rw [hye, V.of_v]
  rw [hrun] at hg ⊢
  obtain ⟨g, a, c', hpf, hr1⟩ := funcA_good hg
  rw [hr1] at hg ⊢
  obtain ⟨m, v, h', he, hr⟩ := hc _ _ _ _ hg
  refine ⟨m + 1, v, h', evalOp_call ho (fun b => by rw [hb]; simp) ?_ he, hr⟩
  unfold targetA
  simp only [e1, hb, hp, hpf]
theorem callC_ok {c : Call} (ho : o.op = .call c) : JOk P G H loc n cs gs o (callC n loc P cs gs o c) := by
  unfold callC
  cases hcal : c.callee with
  | value x =>
    cases x with
    | func g => exact resL_ok (jBad_ok _) fun ys hys => jCall_ok ho hcal hys
    | _ => exact res_ok (jBad_ok _) fun y hy => resL_ok (jBad_ok _) fun ys hys => jCallv_ok ho hcal hy hys
  | invoke r nm => exact jSlow_ok
  | builtin b =>
    simp only
    split
    · split
      · rename_i x t ts ha ht
        split
        · rename_i hu
          exact res_ok (jBad_ok _) fun y hy => jLenS_ok ho hcal ha ht hu hy
        · rename_i e hu
          exact res_ok (jBad_ok _) fun y hy => jLenL_ok ho hcal ha ht hu hy
        · exact jSlow_ok
      · exact jSlow_ok
    · exact jSlow_ok

theorem compO_ok : JOk P G H loc n cs gs o (compO o.op n loc P cs gs o).j := by
  cases ho : o.op with
  | move x => exact res_ok (jBad_ok _) fun y hy => jMov_ok (.inl ho) hy
  | assign x => exact res_ok (jBad_ok _) fun y hy => jMov_ok (.inr ho) hy
  | pick c a b =>
    show JOk P G H loc n cs gs o (pickC n loc cs gs c a b)
    unfold pickC
    cases c with
    | tmp t => exact res_ok (jBad_ok _) fun x hx => res_ok (jBad_ok _) fun y hy => res_ok (jBad_ok _) fun z hz => jPick_ok ho hx hy hz
    | _ => exact jBad_ok _
  | load t a =>
    show JOk P G H loc n cs gs o (loadC n loc P cs gs o t a)
    unfold loadC
    split
    · rename_i ha; exact res_ok (jBad_ok _) fun y hy => jLoad_ok ho ha hy
    · exact jSlow_ok
  | store t a x =>
    show JOk P G H loc n cs gs o (storeC n loc P cs gs o t a x)
    unfold storeC
    split
    · rename_i hs; exact res_ok (jBad_ok _) fun y hy => res_ok (jBad_ok _) fun z hz => jStore_ok ho hs hy hz
    · exact jSlow_ok
  | nilCheck x => exact res_ok (jBad_ok _) fun y hy => jChk_ok ho hy
  | binOp op t x y z => exact binC_ok ho
  | unOp op t x =>
    cases op with
    | not => exact res_ok (jBad_ok _) fun y hy => jNot_ok ho hy
    | _ => exact jSlow_ok
  | fieldAddr s x f =>
    show JOk P G H loc n cs gs o (faddrC n loc P cs gs o s x f)
    unfold faddrC
    split
    · rename_i fields hu
      split
      · rename_i fd hfd
        split
        · rename_i m hs; exact res_ok (jBad_ok _) fun y hy => jFaddr_ok ho hu hfd hs hy
        · exact jBad_ok _
      · exact jBad_ok _
    · exact jBad_ok _
  | indexAddr t x i =>
    show JOk P G H loc n cs gs o (idxaC n loc P cs gs o t x i)
    unfold idxaC
    split
    · rename_i e hu
      split
      · rename_i size hs; exact res_ok (jBad_ok _) fun a ha => res_ok (jBad_ok _) fun b hb => jIdxA_ok ho hu hs ha hb
      · exact jBad_ok _
    · exact jSlow_ok
  | index t x i =>
    show JOk P G H loc n cs gs o (idxC n loc P cs gs o t x i)
    unfold idxC
    split
    · rename_i hu; exact res_ok (jBad_ok _) fun a ha => res_ok (jBad_ok _) fun b hb => jIdxS_ok ho hu ha hb
    · exact jSlow_ok
  | extract x i => exact res_ok (jBad_ok _) fun y hy => jExtract_ok ho hy
  | call c => exact callC_ok ho
  | _ => exact jSlow_ok
theorem compO_mv {x : Operand} (h : (compO o.op n loc P cs gs o).mv = some x) : o.op = .move x ∨ o.op = .assign x := by
  cases ho : o.op with
  | move y => rw [ho] at h; cases h; exact .inl rfl
  | assign y => rw [ho] at h; cases h; exact .inr rfl
  | _ => rw [ho] at h; cases h
end
end
end Go.Ae
/- A region whose order stands: what the compiler makes of it does what the evaluator says. No condition. -/
set_option linter.unusedVariables false
set_option linter.unusedSimpArgs false
namespace Go.Ae
open Go
noncomputable section

section
variable {loc n : Nat} {cs : CS} {f : T AVal} {fr : FR} {L : EnvT n}
theorem holds_set {f : T AVal} {d : Nat} {v : AVal} {g : Gd} (h : g.1 ≠ d) : holds (f.set d v) g ↔ holds f g := by
  unfold holds; rw [gd_set, if_neg (Ne.symm h)]
theorem Inv.shift (inv : Inv loc n cs f fr L) (w : V) : Inv loc (n + 1) cs f fr (PairT.mk (α := EnvT n) w L) where
  nl := inv.nl
  lk := inv.lk
  wf := fun t e m h1 h2 => Nat.lt_succ_of_lt (inv.wf t e m h1 h2)
  nf := inv.nf
  ent := fun t e h1 h2 h3 => by
    rw [← inv.ent t e h1 h2 h3]
    cases hx : e.x with
    | l m =>
      have hm := inv.wf t e m h1 hx
      show ((envL (n + 1) (PairT.mk (α := EnvT n) w L))[n + 1 - (m + 1)]?).getD V.undef = ((envL n L)[n - (m + 1)]?).getD V.undef
      have e1 : n + 1 - (m + 1) = (n - (m + 1)) + 1 := by omega
      rw [e1]; rfl
    | _ => rfl
  un := inv.un
  gm := inv.gm
theorem Inv.setLoc (inv : Inv loc n cs f fr L) {d : Nat} (hd : hasB loc d = true) (hgm : hasB cs.gm d = false) {e : SEnt} {v : AVal} {gm' : Nat}
    (hwf : ∀ m, e.x = .l m → m < n) (hnf : ∀ q, e.x = .f q → hasB loc q = false) (hent : usable cs e.x → (∀ g, e.cond = some g → holds f g) → cev n e.x fr L = V.of v)
    (hun : ∀ g, e.cond = none → e.un = some g → ¬ holds f g → v = .undef) (hne : ∀ g, (e.cond = some g ∨ e.un = some g) → g.1 ≠ d)
    (hg1 : ∀ t, hasB cs.gm t = true → hasB gm' t = true) (hg2 : ∀ g, (e.cond = some g ∨ e.un = some g) → hasB gm' g.1 = true) :
    Inv loc n ⟨cs.env.set d e, cs.dead, gm'⟩ (f.set d v) fr L := by
  have ne_of : ∀ {t : Nat} {e' : SEnt} {g : Gd}, cs.env.get t = some e' → (e'.cond = some g ∨ e'.un = some g) → g.1 ≠ d := by
    intro t e' g h1 h2 h3
    have := inv.gm t e' g h1 h2
    rw [h3, hgm] at this; cases this
  refine ⟨?_, ?_, ?_, ?_, ?_, ?_, ?_⟩
  · intro t h1 h2
    rw [gd_set, if_neg (fun e => by subst e; rw [hd] at h1; cases h1)]
    exact inv.nl t h1 h2
  · intro t e' h1
    rw [T.get_set] at h1
    split at h1
    · rename_i h; subst h; exact hd
    · exact inv.lk t e' h1
  · intro t e' m h1 h2
    rw [T.get_set] at h1
    split at h1
    · cases h1; exact hwf m h2
    · exact inv.wf t e' m h1 h2
  · intro t e' q h1 h2
    rw [T.get_set] at h1
    split at h1
    · cases h1; exact hnf q h2
    · exact inv.nf t e' q h1 h2
  · intro t e' h1 h2 h3
    rw [T.get_set] at h1
    rw [gd_set]
    split at h1
    · rename_i h
      cases h1
      rw [if_pos h]
      exact hent h2 fun g hg => (holds_set (hne g (.inl hg))).1 (h3 g hg)
    · rename_i h
      rw [if_neg h]
      exact inv.ent t e' h1 h2 fun g hg => (holds_set (ne_of h1 (.inl hg))).1 (h3 g hg)
  · intro t e' g h1 h2 h3 h4
    rw [T.get_set] at h1
    rw [gd_set]
    split at h1
    · rename_i h
      cases h1
      rw [if_pos h]
      exact hun g h2 h3 fun hh => h4 ((holds_set (hne g (.inr h3))).2 hh)
    · rename_i h
      rw [if_neg h]
      exact inv.un t e' g h1 h2 h3 fun hh => h4 ((holds_set (ne_of h1 (.inr h3))).2 hh)
  · intro t e' g h1 h2
    rw [T.get_set] at h1
    split at h1
    · cases h1; exact hg2 g h2
    · exact hg1 _ (inv.gm t e' g h1 h2)
theorem Inv.setFr (inv : Inv loc n cs f fr L) {d : Nat} (hd : hasB loc d = false) (hlt : d < 4096) (hgm : hasB cs.gm d = false) (v : AVal) :
    Inv loc n ⟨cs.env, addB cs.dead d, cs.gm⟩ (f.set d v) ((spSlot d).put (V.of v) fr) L := by
  have ne_of : ∀ {t : Nat} {e' : SEnt} {g : Gd}, cs.env.get t = some e' → (e'.cond = some g ∨ e'.un = some g) → g.1 ≠ d := by
    intro t e' g h1 h2 h3
    have := inv.gm t e' g h1 h2
    rw [h3, hgm] at this; cases this
  have td : ∀ {t : Nat} {e' : SEnt}, cs.env.get t = some e' → d ≠ t := by
    intro t e' h1 h2
    have := inv.lk t e' h1
    rw [← h2, hd] at this; cases this
  refine ⟨?_, inv.lk, inv.wf, inv.nf, ?_, ?_, inv.gm⟩
  · intro t h1 h2
    rw [FR.at_put hlt h2, gd_set]
    split
    · rfl
    · exact inv.nl t h1 h2
  · intro t e' h1 h2 h3
    rw [gd_set, if_neg (td h1)]
    have h3' : ∀ g, e'.cond = some g → holds f g := fun g hg => (holds_set (ne_of h1 (.inl hg))).1 (h3 g hg)
    cases hx : e'.x with
    | f q =>
      rw [hx] at h2
      obtain ⟨u1, u2⟩ := h2
      simp only [hasB_add, Bool.or_eq_false_iff, decide_eq_false_iff_not] at u1
      have := inv.ent t e' h1 (by rw [hx]; exact ⟨u1.1, u2⟩) h3'
      rw [hx] at this
      rw [← this]
      show ((spSlot d).put (V.of v) fr).at q = fr.at q
      rw [FR.at_put hlt u2, if_neg u1.2]
    | c a =>
      have := inv.ent t e' h1 (by rw [hx]; trivial) h3'
      rw [hx] at this; exact this
    | l m =>
      have := inv.ent t e' h1 (by rw [hx]; trivial) h3'
      rw [hx] at this; exact this
  · intro t e' g h1 h2 h3 h4
    rw [gd_set, if_neg (td h1)]
    exact inv.un t e' g h1 h2 h3 fun hh => h4 ((holds_set (ne_of h1 (.inr h3))).2 hh)
theorem hasB_mask {gm : Nat} {g : Option Gd} {t : Nat} : hasB (mask gm g) t = true ↔ hasB gm t = true ∨ ∃ x, g = some x ∧ x.1 = t := by
  cases g with
  | none => simp [mask]
  | some x =>
    show hasB (addB gm x.1) t = true ↔ _
    rw [hasB_add]; simp
end

section
variable {P : Program} {G : Nat → Option AVal} {H : Hook} {loc n : Nat} {cs : CS}

theorem alias_ok {g : Option Gd} {x : Operand} {e : SEnt} (ha : alias loc cs g x = some e) {f : T AVal} {fr : FR} {L : EnvT n} (inv : Inv loc n cs f fr L) :
    (∃ v, opdA f x = some v) ∧ (∀ m, e.x = .l m → m < n) ∧ (∀ q, e.x = .f q → hasB loc q = false) ∧ (∀ u, (e.cond = some u ∨ e.un = some u) → g = some u ∨ hasB cs.gm u.1 = true) ∧
    ∀ v, ((∀ u, g = some u → holds f u) → opdA f x = some v) → (∀ u, g = some u → ¬ holds f u → v = .undef) →
      (usable cs e.x → (∀ u, e.cond = some u → holds f u) → cev n e.x fr L = V.of v) ∧ (∀ u, e.cond = none → e.un = some u → ¬ holds f u → v = .undef) := by
  have cst : ∀ {a : AVal} {y : CX}, opdA f x = some a → (∀ m, y ≠ .l m) → (∀ q, y = .f q → hasB loc q = false) → (usable cs y → cev n y fr L = V.of a) → e = ⟨g, none, y⟩ →
      (∃ v, opdA f x = some v) ∧ (∀ m, e.x = .l m → m < n) ∧ (∀ q, e.x = .f q → hasB loc q = false) ∧ (∀ u, (e.cond = some u ∨ e.un = some u) → g = some u ∨ hasB cs.gm u.1 = true) ∧
      ∀ v, ((∀ u, g = some u → holds f u) → opdA f x = some v) → (∀ u, g = some u → ¬ holds f u → v = .undef) →
        (usable cs e.x → (∀ u, e.cond = some u → holds f u) → cev n e.x fr L = V.of v) ∧ (∀ u, e.cond = none → e.un = some u → ¬ holds f u → v = .undef) := by
    intro a y h1 h2 h2' h3 he
    subst he
    refine ⟨⟨a, h1⟩, fun m hm => absurd hm (h2 m), h2', fun u hu => ?_, fun v hv _ => ⟨fun hu hc => ?_, fun u _ hu => by cases hu⟩⟩
    · rcases hu with hu | hu
      · exact .inl hu
      · cases hu
    · have := hv hc
      rw [h1] at this; cases this
      exact h3 hu
  cases x with
  | tmp t =>
    unfold alias at ha
    cases hl : hasB loc t with
    | false =>
      simp only [hl] at ha
      cases hd : hasB cs.dead t with
      | true => simp only [hd] at ha; cases ha
      | false =>
        simp only [hd, Option.some.injEq] at ha
        exact cst (y := .f t) (opdA_tmp f t) (fun m hm => by cases hm) (fun q hq => by cases hq; exact hl) (fun hu => inv.nl t hl hu.2) ha.symm
    | true =>
      simp only [hl] at ha
      cases he : cs.env.get t with
      | none => simp only [he] at ha; cases ha
      | some e0 =>
        simp only [he] at ha
        -- the entry is the source's own
        have same : e = e0 → (∀ u, g = some u → e0.cond = none ∧ e0.un = some u) →
            (∃ v, opdA f (.tmp t) = some v) ∧ (∀ m, e.x = .l m → m < n) ∧ (∀ q, e.x = .f q → hasB loc q = false) ∧ (∀ u, (e.cond = some u ∨ e.un = some u) → g = some u ∨ hasB cs.gm u.1 = true) ∧
            ∀ v, ((∀ u, g = some u → holds f u) → opdA f (.tmp t) = some v) → (∀ u, g = some u → ¬ holds f u → v = .undef) →
              (usable cs e.x → (∀ u, e.cond = some u → holds f u) → cev n e.x fr L = V.of v) ∧ (∀ u, e.cond = none → e.un = some u → ¬ holds f u → v = .undef) := by
          intro h1 h2
          subst h1
          refine ⟨⟨_, opdA_tmp f t⟩, fun m hm => inv.wf t e m he hm, fun q hq => inv.nf t e q he hq, fun u hu => .inr (inv.gm t e u he hu), fun v hv hn => ?_⟩
          have hvv : v = gd f t := by
            by_cases hh : ∀ u, g = some u → holds f u
            · have := hv hh; rw [opdA_tmp] at this; cases this; rfl
            · cases g with
              | none => exact absurd (fun u hu => by cases hu) hh
              | some u =>
                have hnh : ¬ holds f u := fun h => hh fun u' hu' => by cases hu'; exact h
                rw [hn u rfl hnh]
                obtain ⟨q1, q2⟩ := h2 u rfl
                exact (inv.un t e u he q1 q2 hnh).symm
          subst hvv
          exact ⟨fun hu hc => inv.ent t e he hu hc, fun u h1 h2 h3 => inv.un t e u he h1 h2 h3⟩
        have other : ∀ u, g = some u → e = ⟨some u, none, e0.x⟩ → (e0.cond = none ∨ e0.cond = some u) →
            (∃ v, opdA f (.tmp t) = some v) ∧ (∀ m, e.x = .l m → m < n) ∧ (∀ q, e.x = .f q → hasB loc q = false) ∧ (∀ u, (e.cond = some u ∨ e.un = some u) → g = some u ∨ hasB cs.gm u.1 = true) ∧
            ∀ v, ((∀ u, g = some u → holds f u) → opdA f (.tmp t) = some v) → (∀ u, g = some u → ¬ holds f u → v = .undef) →
              (usable cs e.x → (∀ u, e.cond = some u → holds f u) → cev n e.x fr L = V.of v) ∧ (∀ u, e.cond = none → e.un = some u → ¬ holds f u → v = .undef) := by
          intro u hg h1 h2
          subst h1; subst hg
          refine ⟨⟨_, opdA_tmp f t⟩, fun m hm => inv.wf t e0 m he hm, fun q hq => inv.nf t e0 q he hq, fun u' hu => ?_, fun v hv hn => ⟨fun hu hc => ?_, fun u' h => by cases h⟩⟩
          · rcases hu with hu | hu
            · exact .inl hu
            · cases hu
          · have hh := hc u rfl
            have := hv fun u' hu' => by cases hu'; exact hh
            rw [opdA_tmp] at this; cases this
            refine inv.ent t e0 he hu fun u' hu' => ?_
            rcases h2 with h2 | h2
            · rw [h2] at hu'; cases hu'
            · rw [h2] at hu'; cases hu'; exact hh
        cases g with
        | none => simp only [Option.some.injEq] at ha; exact same ha.symm fun u hu => by cases hu
        | some u =>
          simp only at ha
          cases hc : e0.cond with
          | none =>
            simp only [hc] at ha
            cases hun : e0.un with
            | none => simp only [hun, Option.some.injEq] at ha; exact other u rfl ha.symm (.inl hc)
            | some w =>
              simp only [hun] at ha
              cases hq : gdEq w u with
              | true =>
                simp only [hq, Option.some.injEq] at ha
                have := (gdEq_iff w u).1 hq
                subst this
                exact same ha.symm fun u' hu' => by cases hu'; exact ⟨hc, hun⟩
              | false => simp only [hq, Option.some.injEq] at ha; exact other u rfl ha.symm (.inl hc)
          | some c =>
            simp only [hc] at ha
            cases hq : gdEq c u with
            | true =>
              simp only [hq, Option.some.injEq] at ha
              have := (gdEq_iff c u).1 hq
              subst this
              exact other c rfl ha.symm (.inr hc)
            | false => simp only [hq] at ha; cases ha
  | const v =>
    unfold alias at ha
    cases hc : ofConst 100000 v with
    | none => simp only [hc] at ha; cases ha
    | some a =>
      simp only [hc, Option.some.injEq] at ha
      exact cst (a := a) hc (fun m hm => by cases hm) (fun q hq => by cases hq) (fun _ => rfl) ha.symm
  | global i => simp only [alias, Option.some.injEq] at ha; exact cst (a := .gptr i 0) rfl (fun m hm => by cases hm) (fun q hq => by cases hq) (fun _ => rfl) ha.symm
  | func i => simp only [alias, Option.some.injEq] at ha; exact cst (a := .func (.func i) [] []) rfl (fun m hm => by cases hm) (fun q hq => by cases hq) (fun _ => rfl) ha.symm

/- guards -/
def Wants (all : List Oper) (o : Oper) : Option Gd → Prop
  | none => ∀ f, wantedA all f o = true
  | some g => ∀ f, wantedA all f o = true ↔ holds f g
theorem guardK_cases {β : Type} {all : List Oper} {o : Oper} {bad : β} {k : Option Gd → β} : guardK all o bad k = bad ∨ ∃ g, Wants all o g ∧ guardK all o bad k = k g := by
  unfold guardK
  cases hg : o.guard with
  | none => exact .inr ⟨none, fun f => by unfold wantedA; rw [hg], rfl⟩
  | some jw =>
    obtain ⟨j, w⟩ := jw
    simp only [nthG_eq]
    cases ho : all[j]? with
    | none => exact .inl rfl
    | some o' =>
      simp only
      cases hd : o'.dst with
      | none => exact .inl rfl
      | some g =>
        refine .inr ⟨some (g, w), fun f => ?_, rfl⟩
        unfold wantedA yieldA
        rw [hg]
        simp only [ho, Option.bind_some, hd]
        unfold holds gd
        simp only
        cases hf : f.get g with
        | none => simp [AVal.undef]
        | some a => cases a <;> simp
theorem gate_pos {x : AVal} {w : Bool} {a b : Out} (h : x = .bool w) : gate (V.of x) w a b = a := by
  subst h; cases w <;> rfl
theorem gate_neg {x : AVal} {w : Bool} {a b : Out} (h : x ≠ .bool w) : gate (V.of x) w a b = b := by
  unfold gate
  cases ht : Nat.beq (V.of x).tag 1 with
  | false => rfl
  | true =>
    have hx := tag_bool (Nat.eq_of_beq_eq_true ht)
    rw [hx] at h ⊢
    cases hb : (V.of x).t <;> cases w <;> first | rfl | (exfalso; apply h; rw [hb])
end
end
end Go.Ae
