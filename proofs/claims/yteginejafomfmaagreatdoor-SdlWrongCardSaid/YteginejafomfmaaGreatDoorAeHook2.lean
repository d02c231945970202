/- Place and awake as contracts; what a run by the kernel shows. No condition. -/
import Derived.Test.YteginejafomfmaaGreatDoorAeHook
set_option linter.unusedVariables false
set_option linter.unusedSimpArgs false
namespace Go.Ae
open Go
noncomputable section

/-- Did a run come to this value? -/
def Out.is (o : Out) (x : AVal) : Bool := match o with
  | .ok v _ => beqV 9 v x
  | .bad _ => false
theorem Out.is_ok {o : Out} {x : AVal} (h : o.is x = true) : ∃ h', o = .ok x h' := by
  cases o with
  | ok v h' => exact ⟨h', by rw [beqV_eq 9 v x h]⟩
  | bad n => cases h

theorem wrap_nat {m : Int} (h0 : 0 ≤ m) (h1 : m < 9223372036854775808) : IntKind.i64.wrap m = m := by
  obtain ⟨k, rfl⟩ := Int.eq_ofNat_of_zero_le h0
  exact wrap_i64 (m := k) (by omega)
/-- A number's place among n, as the program reckons it. -/
theorem place_eq {v n : Int} (h0 : 0 < n) (h1 : n < 9223372036854775808) : (if v.tmod n < 0 then IntKind.i64.wrap (v.tmod n + n) else v.tmod n) = v % n := by
  have hlt := Int.emod_lt_of_pos v h0
  have hge := Int.emod_nonneg v (Int.ne_of_gt h0)
  rw [Int.tmod_eq_emod]
  split
  · rw [if_neg (by omega)]; omega
  · rw [if_pos (by omega)]
    have e : v % n - ↑n.natAbs + n = v % n := by omega
    rw [e, wrap_nat hge (by omega)]

def hookPlace (b : Bool) : Hook := ⟨fun _ _ _ => none, fun op x y => match op, x, y with
  | .rem, .opq 0, .opq 1 => some (.opq 2)
  | .lss, .opq 2, .int .i64 0 => some (.bool b)
  | .add, .opq 2, .opq 1 => some (.opq 3)
  | _, _, _ => none⟩
def envPlace (v n : Int) : Env := ⟨fun i => match i with
  | 0 => .int .i64 v
  | 1 => .int .i64 n
  | 2 => .int .i64 (v.tmod n)
  | _ => .int .i64 (IntKind.i64.wrap (v.tmod n + n)), fun _ => none, 0⟩
theorem hookPlace_ok {P : Program} {v n : Int} (hn : n ≠ 0) : HookOk P (envPlace v n) (hookPlace (decide (v.tmod n < 0))) := by
  refine ⟨fun _ _ _ _ _ h => (by cases h), fun op x y u h β a o t p q z ho hx hy => ?_⟩
  simp only [hookPlace] at h
  split at h
  · simp only [Option.some.injEq] at h
    subst h
    generalize hcx : a.eval p = cx at hx
    generalize hcy : a.eval q = cy at hy
    cases hx; cases hy
    exact ⟨_, fun w => run_rem ho hcx hcy hn w, .opq 2 rfl (by intro b h; cases h)⟩
  · simp only [Option.some.injEq] at h
    subst h
    generalize hcx : a.eval p = cx at hx
    generalize hcy : a.eval q = cy at hy
    cases hx; cases hy
    exact ⟨_, fun w => run_cmp (.inl rfl) ho hcx hcy w, .bool _⟩
  · simp only [Option.some.injEq] at h
    subst h
    generalize hcx : a.eval p = cx at hx
    generalize hcy : a.eval q = cy at hy
    cases hx; cases hy
    exact ⟨_, fun w => run_add ho hcx hcy w, .opq 3 rfl (by intro b h; cases h)⟩
  · cases h

section
variable {P : Program} {locs : FuncId → Nat}
/-- Place's contract, out of two runs. -/
theorem place_conc (hmix : P.follows .mixedOrders = true) (hfit : fitsP P = true) (hord : ordP P locs = true) {f : FuncId} {fn : Func} (hf : P.funcs[f]? = some fn) (hb : fn.body.isSome = true)
    (r1 : (fast P (fun _ => none) (hookPlace true) locs f [.opq 0, .opq 1] Hp.empty).is (.opq 3) = true) (r2 : (fast P (fun _ => none) (hookPlace false) locs f [.opq 0, .opq 1] Hp.empty).is (.opq 2) = true)
    {v n : Int} (h0 : 0 < n) (h1 : n < 9223372036854775808) : Conc P f [.int .i64 v, .int .i64 n] (.int .i64 (v % n)) := by
  have hargs : VRs (envPlace v n).ρ (fun _ => none) [.opq 0, .opq 1] [.int .i64 v, .int .i64 n] := .cons (.opq 0 rfl (by intro b h; cases h)) (.cons (.opq 1 rfl (by intro b h; cases h)) .nil)
  rw [← place_eq h0 h1]
  cases hb2 : decide (v.tmod n < 0) with
  | true =>
    obtain ⟨h', he⟩ := Out.is_ok r1
    have hc := fast_sound (E := envPlace v n) hmix hfit hord (by rw [← hb2]; exact hookPlace_ok (Int.ne_of_gt h0)) hf hb he
    refine Conc.of_empty rfl rfl hc hargs fun β cv' hv => ?_
    cases hv
    rw [if_pos (of_decide_eq_true hb2)]; rfl
  | false =>
    obtain ⟨h', he⟩ := Out.is_ok r2
    have hc := fast_sound (E := envPlace v n) hmix hfit hord (by rw [← hb2]; exact hookPlace_ok (Int.ne_of_gt h0)) hf hb he
    refine Conc.of_empty rfl rfl hc hargs fun β cv' hv => ?_
    cases hv
    rw [if_neg (of_decide_eq_false hb2)]; rfl

/-- The hook of a law: numbers placed, and the example that is always asked. -/
def placeHook (pv : Nat → Nat → Option Nat) (args : List AVal) (h : Hp) : Option (Option (AVal × Hp)) := match args with
  | [.opq i, .int .i64 (.ofNat n)] => match pv i n with
    | some k => some (some (.int .i64 (.ofNat k), h))
    | none => none
  | _ => none
def awakeHook (args : List AVal) (h : Hp) : Option (Option (AVal × Hp)) := match args with
  | [] => some (some (.bool true, h))
  | _ => none
def hookPA (place awake : Nat) (pv : Nat → Nat → Option Nat) : Hook := ⟨fun f args h => Bool.rec (Bool.rec none (awakeHook args h) (Nat.beq f awake)) (placeHook pv args h) (Nat.beq f place), fun _ _ _ => none⟩
theorem hookPA_ok {E : Env} {place awake : Nat} {pv : Nat → Nat → Option Nat} (hp : ∃ fn, P.funcs[place]? = some fn ∧ fn.body.isSome = true) (ha : ∃ fn, P.funcs[awake]? = some fn ∧ fn.body.isSome = true)
    (cp : ∀ v n : Int, 0 < n → n < 9223372036854775808 → Conc P place [.int .i64 v, .int .i64 n] (.int .i64 (v % n))) (ca : Conc P awake [] (.bool true))
    (hpv : ∀ i n k, pv i n = some k → ∃ v : Int, E.ρ i = .int .i64 v ∧ 0 < n ∧ n < 9223372036854775808 ∧ v % (n : Int) = k) : HookOk P E (hookPA place awake pv) := by
  refine ⟨fun f args h v h' hh => ?_, fun _ _ _ _ h => (by cases h)⟩
  simp only [hookPA] at hh
  cases h1 : Nat.beq f place with
  | true =>
    rw [h1] at hh
    have := Nat.eq_of_beq_eq_true h1
    subst this
    refine ⟨hp, ?_⟩
    simp only [placeHook] at hh
    split at hh
    · rename_i i n
      split at hh
      · rename_i k hk
        simp only [Option.some.injEq, Prod.mk.injEq] at hh
        obtain ⟨rfl, rfl⟩ := hh
        obtain ⟨z, e1, e2, e3, e4⟩ := hpv i n k hk
        refine Conc.callOk (cp z n (by omega) (by omega)) (fun β cs hcs => ?_) (fun β => ?_) h
        · cases hcs with | cons a b => cases b with | cons c d => cases d; cases a; cases c; rw [e1]; rfl
        · rw [e4]; exact .int _ _
      · cases hh
    · cases hh
  | false =>
    rw [h1] at hh
    cases h2 : Nat.beq f awake with
    | false => rw [h2] at hh; cases hh
    | true =>
      rw [h2] at hh
      have := Nat.eq_of_beq_eq_true h2
      subst this
      refine ⟨ha, ?_⟩
      simp only [awakeHook] at hh
      split at hh
      · simp only [Option.some.injEq, Prod.mk.injEq] at hh
        obtain ⟨rfl, rfl⟩ := hh
        exact Conc.callOk ca (fun β cs hcs => by cases hcs; rfl) (fun β => .bool _) h
      · cases hh
end
end
end Go.Ae
