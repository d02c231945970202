/- What a piece of code is to do, and the statement on regions whose order the run draws. -/
import Derived.Test.YteginejafomfmaaGreatDoorAeCall
set_option linter.unusedVariables false
set_option linter.unusedSimpArgs false
namespace Go.Ae
open Go

def fitsOps (N : Nat) (ops : List Oper) : Bool := ops.all fun o => match o.dst with
  | some d => Nat.blt d N
  | none => true
def fitsC (N : Nat) : Code → Bool
  | .region _ ops _ => fitsOps N ops.toList
  | .seq a b => fitsC N a && fitsC N b
  | .cond _ a b => fitsC N a && fitsC N b
  | .block _ b => fitsC N b
  | .loop b => fitsC N b
  | .scope b => fitsC N b
  | _ => true
def fitsFn (fn : Func) : Bool := match fn.body with
  | none => true
  | some c => fitsC fn.ntmps c && !(fn.name == "runtime.NumGoroutine")
def fitsP (P : Program) : Bool := P.funcs.all fitsFn

theorem fitsP_fn {P : Program} (h : fitsP P = true) {f : FuncId} {fn : Func} (hf : P.funcs[f]? = some fn) : fitsFn fn = true :=
  Array.all_eq_true_iff_forall_mem.1 h fn (Array.mem_of_getElem? hf)

def Ex.toExit : Ex → Exit
  | .normal => .normal
  | .exit id => .exit id
  | .goto l => .goto l
  | .ret => .ret

def Post (E : Env) (β : Beta) (h : Hp) (w : World) (N : Nat) (r : Res) : Exit → Act → World → Prop :=
  fun e a' w' => e = r.ex.toExit ∧ ∃ β', FrR E β' N r.fr a' ∧ Rel E β' r.h w' ∧ Frm β h w β' r.h w'

def OpSound (P : Program) (E : Env) (H : Hook) (n : Nat) : Prop :=
  ∀ {β fr h o v h' w a N}, evalOp P E.G H n fr h o = some (v, h') → Rel E β h w → FrR E β N fr a → StepOk P E β h w (execOp a.eval o) v h'
def CallSound (P : Program) (E : Env) (H : Hook) (n : Nat) : Prop :=
  ∀ {f args h v h' β w cargs}, evalCall P E.G H n f args h = some (v, h') → Rel E β h w → VRs E.ρ β args cargs → StepOk P E β h w (callFunc f cargs.toArray) v h'
def CodeSound (P : Program) (E : Env) (H : Hook) (n : Nat) : Prop :=
  ∀ {c fr h r β w a N}, evalCode P E.G H n c fr h = some r → fitsC N c = true → Rel E β h w → FrR E β N fr a → c.wp P (Post E β h w N r) a w

section
variable {P : Program} {E : Env} {β : Beta} {h : Hp} {w : World} {fr : T AVal} {a : Act} {N : Nat}

theorem VR.bool_iff {x : AVal} {v : Value} {ρ : Nat → Value} (hv : VR ρ β x v) (b : Bool) : v = .bool b ↔ x = .bool b := by
  cases hv with
  | bool c => exact ⟨fun e => by cases e; rfl, fun e => by cases e; rfl⟩
  | opq i h hb => exact ⟨fun e => absurd e (hb _), fun e => by cases e⟩
  | _ => constructor <;> (intro e; cases e)

theorem yielded_eq (hf : FrR E β N fr a) (ops : Array Oper) (j : Nat) : yielded ops a.tmps j = yieldA ops.toList fr j := by
  unfold yielded yieldA
  rw [Array.getElem?_toList]
  cases hd : (ops[j]?).bind (·.dst) with
  | none => rfl
  | some d =>
    have hv := hf.val d
    simp only [Option.bind_some]
    cases hg : fr.get d with
    | none =>
      rw [hg] at hv
      simp only [Option.getD_none] at hv
      split
      · rename_i b hb
        have : a.tmps.getD d undef = .bool b := by simp [Array.getD_eq_getD_getElem?, hb]
        rw [this] at hv
        cases (hv.bool_iff b).1 rfl
      · rfl
    | some x =>
      rw [hg] at hv
      simp only [Option.getD_some] at hv
      split
      · rename_i b hb
        have : a.tmps.getD d undef = .bool b := by simp [Array.getD_eq_getD_getElem?, hb]
        rw [this] at hv
        rw [(hv.bool_iff b).1 rfl]
      · rename_i hb
        split
        · rename_i b hx
          simp only [Option.some.injEq] at hx; subst hx
          have := (hv.bool_iff b).2 rfl
          rw [Array.getD_eq_getD_getElem?] at this
          cases ht : a.tmps[d]? with
          | none => rw [ht] at this; simp [undef] at this
          | some y => rw [ht] at this; simp only [Option.getD_some] at this; subst this; exact absurd ht (hb b)
        · rfl

theorem wanted_eq (hf : FrR E β N fr a) (ops : Array Oper) (o : Oper) : Region.wanted o (yielded ops a.tmps) = wantedA ops.toList fr o := by
  unfold Region.wanted wantedA
  cases o.guard with
  | none => rfl
  | some g => obtain ⟨j, want⟩ := g; simp only; rw [yielded_eq hf ops j]

theorem undef_VR {ρ : Nat → Value} : VR ρ β AVal.undef undef := .tuple .nil
end
end Go.Ae
