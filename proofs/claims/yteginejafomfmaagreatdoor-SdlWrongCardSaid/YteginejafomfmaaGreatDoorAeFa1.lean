/- The quick evaluator's values, frames and rows of values. No condition. -/
import Derived.Test.YteginejafomfmaaGreatDoorAeFast
import Derived.Test.YteginejafomfmaaGreatDoorAeMono
import Derived.Test.YteginejafomfmaaGreatDoorAeCongr
set_option linter.unusedVariables false
set_option linter.unusedSimpArgs false
namespace Go.Ae
open Go
noncomputable section

/- values -/
theorem V.of_v (x : AVal) : (V.of x).v = x := by
  cases x with
  | int k n => cases n <;> rfl
  | _ => rfl
theorem V.of_bool (b : Bool) : V.of (.bool b) = V.ofB b := rfl
theorem V.of_i64 (n : Nat) : V.of (.int .i64 (.ofNat n)) = V.ofI n := rfl
theorem V.of_u8 (n : Nat) : V.of (.int .u8 (.ofNat n)) = V.ofU8 n := rfl
theorem V.of_str (n c : Nat) : V.of (.str n c) = V.ofS n c := rfl
theorem V.of_ptr (b o : Nat) : V.of (.ptr b o) = V.ofP b o := rfl
theorem V.of_tuple (l : List AVal) : V.of (.tuple l) = V.ofT l := rfl
theorem V.of_undef : V.of .undef = V.undef := rfl
theorem kcode_ge (k : IntKind) : 10 ≤ kcode k := by cases k <;> decide
theorem kcode_inj {k k' : IntKind} (h : kcode k = kcode k') : k = k' := by
  cases k <;> cases k' <;> first | rfl | (exfalso; revert h; decide)

theorem tag_bool {x : AVal} (h : (V.of x).tag = 1) : x = .bool (V.of x).t := by
  cases x with
  | bool b => rfl
  | int k n => cases n with
    | ofNat m => have := kcode_ge k; change kcode k = 1 at h; omega
    | negSucc m => cases h
  | _ => cases h
theorem tag_str {x : AVal} (h : (V.of x).tag = 4) : x = .str (V.of x).a (V.of x).b := by
  cases x with
  | str n c => rfl
  | int k n => cases n with
    | ofNat m => have := kcode_ge k; change kcode k = 4 at h; omega
    | negSucc m => cases h
  | _ => cases h
theorem tag_ptr {x : AVal} (h : (V.of x).tag = 5) : x = .ptr (V.of x).a (V.of x).b := by
  cases x with
  | ptr n c => rfl
  | int k n => cases n with
    | ofNat m => have := kcode_ge k; change kcode k = 5 at h; omega
    | negSucc m => cases h
  | _ => cases h
theorem tag_slice {x : AVal} (h : (V.of x).tag = 6) : ∃ cap e, x = .slice (V.of x).a (V.of x).b (V.of x).c cap e (V.of x).d := by
  cases x with
  | slice b o l c e s => exact ⟨c, e, rfl⟩
  | int k n => cases n with
    | ofNat m => have := kcode_ge k; change kcode k = 6 at h; omega
    | negSucc m => cases h
  | _ => cases h
theorem tag_nilslice {x : AVal} (h : (V.of x).tag = 7) : x = .nilslice := by
  cases x with
  | nilslice => rfl
  | int k n => cases n with
    | ofNat m => have := kcode_ge k; change kcode k = 7 at h; omega
    | negSucc m => cases h
  | _ => cases h
theorem tag_int {x : AVal} (h : 10 ≤ (V.of x).tag) : ∃ k, x = .int k (.ofNat (V.of x).a) ∧ (V.of x).tag = kcode k := by
  cases x with
  | int k n => cases n with
    | ofNat m => exact ⟨k, rfl, rfl⟩
    | negSucc m => exact absurd h (by change ¬ 10 ≤ 0; omega)
  | bool => exact absurd h (by change ¬ 10 ≤ 1; omega)
  | str => exact absurd h (by change ¬ 10 ≤ 4; omega)
  | ptr => exact absurd h (by change ¬ 10 ≤ 5; omega)
  | slice => exact absurd h (by change ¬ 10 ≤ 6; omega)
  | nilslice => exact absurd h (by change ¬ 10 ≤ 7; omega)
  | _ => exact absurd h (by change ¬ 10 ≤ 0; omega)
theorem tag_i64 {x : AVal} (h : (V.of x).tag = 13) : x = .int .i64 (.ofNat (V.of x).a) := by
  obtain ⟨k, hx, hk⟩ := tag_int (x := x) (by omega)
  have : k = .i64 := by
    have e : kcode k = kcode .i64 := by rw [← hk, h]; rfl
    exact kcode_inj e
  subst this
  exact hx

/- runs that do not give up -/
def Good (r : Out) : Prop := ∀ n, r ≠ .bad n
theorem not_good (n : Nat) : ¬ Good (.bad n) := fun h => h n rfl
theorem ifB_true {c : Bool} {a b : Out} (h : c = true) : ifB c a b = a := by subst h; rfl
theorem ifB_false {c : Bool} {a b : Out} (h : c = false) : ifB c a b = b := by subst h; rfl
theorem nat_beq_false {a b : Nat} (h : Nat.beq a b = false) : a ≠ b := fun e => by subst e; rw [Nat.beq_refl] at h; cases h

/- lists -/
section
variable {α : Type}
theorem nthG_eq : ∀ (l : List α) (i : Nat), nthG l i = l[i]?
  | [], i => rfl
  | v :: l, 0 => rfl
  | v :: l, i + 1 => by rw [List.getElem?_cons_succ, ← nthG_eq l i]; rfl
theorem tlG_eq (l : List α) : tlG l = l.drop 1 := by cases l <;> rfl
theorem dropC_eq (l : List α) : ∀ k, dropC l k = l.drop (16 * k)
  | 0 => by rfl
  | k + 1 => by
    have e : dropC l (k + 1) = (dropC l k).drop 16 := by
      have : ∀ m : List α, tlG (tlG (tlG (tlG (tlG (tlG (tlG (tlG (tlG (tlG (tlG (tlG (tlG (tlG (tlG (tlG m))))))))))))))) = m.drop 16 := by
        intro m; simp only [tlG_eq, List.drop_drop]
      rw [← this]; rfl
    rw [e, dropC_eq l k, List.drop_drop]; congr 1
theorem nthC_eq (l : List α) (n : Nat) : nthC l n = l[n]? := by
  unfold nthC
  rw [nthG_eq, dropC_eq, List.getElem?_drop]
  congr 1
  show 16 * (n / 16) + n % 16 = n
  omega
end

/- frames -/
def FR.at (fr : FR) (t : Nat) : V := (xSlot 0 t).ev fr env0
theorem xA_ev (n : Nat) (x y : D8) (fr : FR) (L : EnvT n) : (xA x y n).ev fr L = y.sel (x.sel fr.a) := by cases x <;> cases y <;> rfl
theorem xB_ev (n : Nat) (x y z u : D8) (fr : FR) (L : EnvT n) : (xB n (selOf _ x) (selOf _ y) (selOf _ z) (selOf _ u)).ev fr L = u.sel (z.sel (y.sel (x.sel fr.b))) := by simp only [selOf_eq, xB]
theorem spA_put (x y : D8) (v : V) (fr : FR) : (spA x y).put v fr = ⟨x.upd (y.upd fun _ => v) fr.a, fr.b⟩ := by cases x <;> cases y <;> rfl
theorem spB_put (x y z u : D8) (v : V) (fr : FR) : (spB (selOf _ x) (selOf _ y) (selOf _ z) (selOf _ u)).put v fr = ⟨fr.a, x.upd (y.upd (z.upd (u.upd fun _ => v))) fr.b⟩ := by simp only [selOf_eq, spB]; rfl

/-- A slot's place in a frame. -/
inductive FPos where
  | a (p : D2)
  | b (p : D4)
def fpos (t : Nat) : FPos := match Nat.blt t 64 with
  | true => .a (dig (t / 8), dig (t % 8))
  | false => .b ((dig (t / 512), dig (t / 64 % 8)), (dig (t / 8 % 8), dig (t % 8)))
def FPos.get (fr : FR) : FPos → V
  | .a p => p.2.sel (p.1.sel fr.a)
  | .b p => p.2.2.sel (p.2.1.sel (p.1.2.sel (p.1.1.sel fr.b)))
def FPos.put (v : V) (fr : FR) : FPos → FR
  | .a p => ⟨p.1.upd (p.2.upd fun _ => v) fr.a, fr.b⟩
  | .b p => ⟨fr.a, p.1.1.upd (p.1.2.upd (p.2.1.upd (p.2.2.upd fun _ => v))) fr.b⟩
theorem xSlot_ev (n t : Nat) (fr : FR) (L : EnvT n) : (xSlot n t).ev fr L = (fpos t).get fr := by
  unfold xSlot fpos
  cases Nat.blt t 64 with
  | true => exact xA_ev n _ _ fr L
  | false => exact xB_ev n _ _ _ _ fr L
theorem spSlot_put {t : Nat} (ht : t < 4096) (v : V) (fr : FR) : (spSlot t).put v fr = (fpos t).put v fr := by
  unfold spSlot fpos
  have hb : Nat.blt t 4096 = true := by rw [Nat.blt_eq]; exact ht
  cases Nat.blt t 64 with
  | true => exact spA_put _ _ v fr
  | false => rw [hb]; exact spB_put _ _ _ _ v fr
theorem spSlot_out {t : Nat} (ht : ¬ t < 4096) (v : V) (fr : FR) : (spSlot t).put v fr = fr := by
  unfold spSlot
  have h1 : Nat.blt t 64 = false := by
    cases h : Nat.blt t 64 with
    | false => rfl
    | true => have := blt_true h; omega
  have h2 : Nat.blt t 4096 = false := by
    cases h : Nat.blt t 4096 with
    | false => rfl
    | true => have := blt_true h; omega
  rw [h1, h2]
theorem xSlot_at (n t : Nat) (fr : FR) (L : EnvT n) : (xSlot n t).ev fr L = fr.at t := by unfold FR.at; rw [xSlot_ev, xSlot_ev]
theorem fpos_inj {s t : Nat} (hs : s < 4096) (ht : t < 4096) (h : fpos s = fpos t) : s = t := by
  unfold fpos at h
  cases h1 : Nat.blt s 64 with
  | true => cases h2 : Nat.blt t 64 with
    | true =>
      rw [h1, h2] at h
      have h1 := blt_true h1; have h2 := blt_true h2
      simp only [FPos.a.injEq, Prod.mk.injEq] at h
      have a := congrArg D8.toNat h.1; have b := congrArg D8.toNat h.2
      rw [dig_toNat (by omega), dig_toNat (by omega)] at a
      rw [dig_toNat (by omega), dig_toNat (by omega)] at b
      omega
    | false => rw [h1, h2] at h; cases h
  | false => cases h2 : Nat.blt t 64 with
    | true => rw [h1, h2] at h; cases h
    | false =>
      rw [h1, h2] at h
      simp only [FPos.b.injEq, Prod.mk.injEq] at h
      obtain ⟨⟨a, b⟩, c, d⟩ := h
      have a := congrArg D8.toNat a; have b := congrArg D8.toNat b; have c := congrArg D8.toNat c; have d := congrArg D8.toNat d
      rw [dig_toNat (by omega), dig_toNat (by omega)] at a
      rw [dig_toNat (by omega), dig_toNat (by omega)] at b
      rw [dig_toNat (by omega), dig_toNat (by omega)] at c
      rw [dig_toNat (by omega), dig_toNat (by omega)] at d
      omega
theorem FPos.get_put_same (p : FPos) (v : V) (fr : FR) : p.get (p.put v fr) = v := by
  cases p with
  | a p => exact lawful2.same p _ _
  | b p => exact lawful4.same p _ _
theorem FPos.get_put_ne (p q : FPos) (v : V) (fr : FR) (h : p ≠ q) : q.get (p.put v fr) = q.get fr := by
  cases p with
  | a p => cases q with
    | a q => exact lawful2.ne p q _ _ fun e => h (by rw [e])
    | b q => rfl
  | b p => cases q with
    | a q => rfl
    | b q => exact lawful4.ne p q _ _ fun e => h (by rw [e])
theorem FR.at_put {s t : Nat} (hs : s < 4096) (ht : t < 4096) (v : V) (fr : FR) : ((spSlot s).put v fr).at t = if s = t then v else fr.at t := by
  unfold FR.at
  rw [xSlot_ev, xSlot_ev, spSlot_put hs]
  by_cases h : s = t
  · subst h; rw [if_pos rfl, FPos.get_put_same]
  · rw [if_neg h, FPos.get_put_ne _ _ _ _ fun e => h (fpos_inj hs ht e)]
theorem FR.at_put' {s t : Nat} (ht : t < 4096) (v : V) (fr : FR) : ((spSlot s).put v fr).at t = if s = t then v else fr.at t := by
  by_cases hs : s < 4096
  · exact FR.at_put hs ht v fr
  · rw [spSlot_out hs, if_neg (by omega)]
theorem FR.at_e (t : Nat) : FR.e.at t = V.undef := by
  unfold FR.at
  rw [xSlot_ev]
  unfold fpos
  cases Nat.blt t 64 with
  | true => show D8.sel _ (D8.sel _ (V8.all (V8.all V.undef))) = _; rw [sel_all, sel_all]
  | false => show D8.sel _ (D8.sel _ (D8.sel _ (D8.sel _ (V8.all (V8.all (V8.all (V8.all V.undef))))))) = _; rw [sel_all, sel_all, sel_all, sel_all]

/- a region's own values -/
def envL : (n : Nat) → EnvT n → List V
  | 0, _ => []
  | n + 1, L => PairT.v (α := EnvT n) L :: envL n (PairT.r (α := EnvT n) L)
theorem envL_length : ∀ (n : Nat) (L : EnvT n), (envL n L).length = n
  | 0, _ => rfl
  | n + 1, L => by simp [envL, envL_length n]
theorem xLoc_ev : ∀ (i n : Nat) (fr : FR) (L : EnvT n), (xLoc i n).ev fr L = ((envL n L)[i]?).getD V.undef
  | 0, 0, fr, L => rfl
  | 0, n + 1, fr, L => rfl
  | i + 1, 0, fr, L => rfl
  | i + 1, n + 1, fr, L => xLoc_ev i n fr (PairT.r (α := EnvT n) L)
end
end Go.Ae
