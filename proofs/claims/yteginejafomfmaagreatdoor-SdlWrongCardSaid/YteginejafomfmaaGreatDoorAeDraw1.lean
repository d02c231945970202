/- A region in any order: what holds on the way. -/
import Derived.Test.YteginejafomfmaaGreatDoorAeTrace
set_option linter.unusedVariables false
set_option linter.unusedSimpArgs false
set_option maxHeartbeats 1000000
namespace Go.Ae
open Go

/-- A region's text, laid out: the row of states, what each operation gives, which block it makes. -/
structure Cx where
  P : Program
  E : Env
  H : Hook
  nmax : Nat
  ops : Array Oper
  p : Plan
  m : Nat
  N : Nat
  st : Nat → DS
  res : Nat → AVal
  blk : Nat → Option Blk
  fr0 : T AVal
  cf : Nat → T AVal
  h0 : Hp
  β0 : Beta
  w0 : World
namespace Cx
variable (c : Cx)
def l : List Oper := c.ops.toList
def n : Nat := c.ops.size
def pre (k : Nat) : Nat := (befores c.l).getD k 0
def em : Nat := effMask c.P c.l
def HS : List Hp := (c.st c.m).hs ++ [(c.st c.m).h]
def Ew (k : Nat) : Prop := ∃ o, c.l[k]? = some o ∧ StepD.EffW c.P c.l o (c.st k)

structure Ok : Prop where
  hop : ∀ k < c.nmax, OpSound c.P c.E c.H k
  back : Back c.l
  hpre : c.p.pre = befores c.l
  hws : c.p.ws = windows c.P c.l
  mle : c.m ≤ c.n
  chain : ∀ i j, i < j → j < c.m → c.em.testBit i = true → c.em.testBit j = true → (c.pre j).testBit i = true
  once : ∀ (i j : Nat) (oi oj : Oper) (d : Tmp), c.l[i]? = some oi → c.l[j]? = some oj → i ≠ j → oi.dst = some d → oj.dst ≠ some d ∧ (d ∈ looksA c.l oj → (c.pre j).testBit i = true ∨ (c.pre i).testBit j = true)
  self : ∀ (i : Nat) (o : Oper) (d : Tmp), c.l[i]? = some o → o.dst = some d → d ∉ looksA c.l o
  fits : ∀ (i : Nat) (o : Oper) (d : Tmp), c.l[i]? = some o → o.dst = some d → d < c.N
  cf0 : c.cf 0 = c.fr0
  cfs : ∀ (i : Nat) (o : Oper), c.l[i]? = some o → c.cf (i + 1) = putA (c.cf i) o.dst (c.res i)
  stcf : ∀ i, i ≤ c.m → (c.st i).fr = c.cf i
  s0h : (c.st 0).h = ⟨c.h0.t, c.h0.next + c.n⟩
  s0hs : (c.st 0).hs = []
  s0pend : (c.st 0).pend = []
  step : ∀ (i : Nat) (o : Oper), i < c.m → c.l[i]? = some o → StepD c.P c.E.G c.H c.nmax c.l c.p i o (c.st i) (c.st (i + 1)) (c.res i) (c.blk i)
  agr : ∀ r ∈ (c.st c.m).rds, agree c.P c.E.G c.HS r = true
  base : c.p.base = c.h0.next
  rel0 : Rel c.E c.β0 c.h0 c.w0

def FrSpec (S : Nat → Prop) (fr : T AVal) : Prop :=
  (∀ (j : Nat) (o : Oper) (d : Tmp), S j → c.l[j]? = some o → o.dst = some d → fr.get d = some (c.res j)) ∧ (∀ (t : Tmp), (∀ (j : Nat) (o : Oper), S j → c.l[j]? = some o → o.dst ≠ some t) → fr.get t = c.fr0.get t)

variable {c}
theorem Ok.op (k : c.Ok) {i : Nat} (h : i < c.n) : ∃ o, c.l[i]? = some o := ⟨_, List.getElem?_eq_getElem (by simpa [l, n] using h)⟩
theorem Ok.lt (k : c.Ok) {i : Nat} {o : Oper} (h : c.l[i]? = some o) : i < c.n := by
  have := (List.getElem?_eq_some_iff.1 h).1; simpa [l, n] using this

theorem Ok.pre_lt (k : c.Ok) {i j : Nat} {o : Oper} (ho : c.l[i]? = some o) (h : (c.pre i).testBit j = true) : j < i :=
  (bef_in k.back (S := fun _ => True) (fun _ _ _ _ _ _ _ => trivial) (i + 1) i (by omega) ho (fun _ _ _ => trivial) h).2

theorem FrSpec.put (k : c.Ok) {S S' : Nat → Prop} {fr : T AVal} (h : c.FrSpec S fr) {i : Nat} {o : Oper} (ho : c.l[i]? = some o) (hi : ¬ S i) (hS : ∀ j, S' j ↔ S j ∨ j = i) : c.FrSpec S' (putA fr o.dst (c.res i)) := by
  cases hd : o.dst with
  | none =>
    refine ⟨fun j o' d hj ho' hd' => ?_, fun t ht => h.2 t fun j o' hj => ht j o' ((hS j).2 (.inl hj))⟩
    rcases (hS j).1 hj with hj | rfl
    · exact h.1 j o' d hj ho' hd'
    · rw [ho] at ho'; cases ho'; rw [hd] at hd'; cases hd'
  | some d =>
    refine ⟨fun j o' d' hj ho' hd' => ?_, fun t ht => ?_⟩
    · simp only [putA, T.get_set]
      rcases (hS j).1 hj with hj | rfl
      · have hne : i ≠ j := fun e => hi (e ▸ hj)
        have := (k.once i j o o' d ho ho' hne hd).1
        rw [if_neg (fun e => this (by rw [hd', e]))]
        exact h.1 j o' d' hj ho' hd'
      · rw [ho] at ho'; cases ho'; rw [hd] at hd'; cases hd'; rw [if_pos rfl]
    · simp only [putA, T.get_set]
      rw [if_neg (fun e => ht i o ((hS i).2 (.inr rfl)) ho (by rw [hd, e]))]
      exact h.2 t fun j o' hj => ht j o' ((hS j).2 (.inl hj))

theorem Ok.canon (k : c.Ok) : ∀ i, i ≤ c.n → c.FrSpec (fun j => j < i) (c.cf i)
  | 0, _ => by rw [k.cf0]; exact ⟨fun j o d hj => by omega, fun t _ => rfl⟩
  | i + 1, hi => by
    obtain ⟨o, ho⟩ := k.op (i := i) (by omega)
    rw [k.cfs i o ho]
    exact (k.canon i (by omega)).put k ho (by omega) fun j => by omega

theorem Ok.hs_len (k : c.Ok) : ∀ i, i ≤ c.m → (c.st i).hs.length = cntB (fun j => c.em.testBit j) i
  | 0, _ => by rw [k.s0hs]; rfl
  | i + 1, hi => by
    obtain ⟨o, ho⟩ := k.op (i := i) (by have := k.mle; omega)
    rw [(k.step i o (by omega) ho).pfx.1, k.hs_len i (by omega)]
    show _ = bif c.em.testBit i then cntB (fun j => c.em.testBit j) i + 1 else cntB (fun j => c.em.testBit j) i
    have : c.em.testBit i = isEff c.P o := by
      rw [Bool.eq_iff_iff, em, testBit_effMask]
      constructor
      · rintro ⟨o', h1, h2⟩; rw [ho] at h1; cases h1; exact h2
      · intro h; exact ⟨o, ho, h⟩
    rw [this]
    cases isEff c.P o <;> simp
theorem Ok.hs_pre (k : c.Ok) : ∀ d i, i + d = c.m → ((c.st i).hs ++ [(c.st i).h]) <+: c.HS
  | 0, i, h => by
    have : i = c.m := by omega
    subst this; exact List.prefix_refl _
  | d + 1, i, h => by
    obtain ⟨o, ho⟩ := k.op (i := i) (by have := k.mle; omega)
    exact List.IsPrefix.trans (k.step i o (by omega) ho).pfx.2 (k.hs_pre d (i + 1) (by omega))
theorem Ok.heap_at (k : c.Ok) {i : Nat} (hi : i ≤ c.m) : c.HS[cntB (fun j => c.em.testBit j) i]? = some (c.st i).h := by
  obtain ⟨t, ht⟩ := k.hs_pre (c.m - i) i (by omega)
  rw [← ht, ← k.hs_len i hi, List.append_assoc]
  simp
theorem Ok.rds_at (k : c.Ok) {r : Rd} : ∀ d i, i + d = c.m → r ∈ (c.st i).rds → r ∈ (c.st c.m).rds
  | 0, i, h, hr => by
    have : i = c.m := by omega
    subst this; exact hr
  | d + 1, i, h, hr => by
    obtain ⟨o, ho⟩ := k.op (i := i) (by have := k.mle; omega)
    exact k.rds_at d (i + 1) (by omega) ((k.step i o (by omega) ho).rds_mem hr)
theorem Ok.pend_at (k : c.Ok) : ∀ i, i ≤ c.m → ∀ j b, (j, b) ∈ (c.st i).pend ↔ j < i ∧ c.blk j = some b ∧ ∀ q, q < i → c.Ew q → (c.pre q).testBit j = false
  | 0, _, j, b => by rw [k.s0pend]; simp
  | i + 1, hi, j, b => by
    obtain ⟨o, ho⟩ := k.op (i := i) (by have := k.mle; omega)
    have hpre : c.p.pre.getD i 0 = c.pre i := by rw [k.hpre]; rfl
    rw [(k.step i o (by omega) ho).pend_iff, k.pend_at i (by omega), hpre]
    have hew : StepD.EffW c.P c.l o (c.st i) ↔ c.Ew i := ⟨fun h => ⟨o, ho, h⟩, fun ⟨o', h1, h2⟩ => by rw [ho] at h1; cases h1; exact h2⟩
    rw [hew]
    constructor
    · rintro (⟨⟨h1, h2, h3⟩, h4⟩ | ⟨rfl, h2⟩)
      · refine ⟨by omega, h2, fun q hq he => ?_⟩
        by_cases e : q = i
        · subst e; exact h4 he
        · exact h3 q (by omega) he
      · refine ⟨by omega, h2, fun q hq he => ?_⟩
        cases hb : (c.pre q).testBit j with
        | false => rfl
        | true =>
          obtain ⟨o', ho', _⟩ := he
          have := k.pre_lt ho' hb; omega
    · rintro ⟨h1, h2, h3⟩
      by_cases e : j = i
      · exact .inr ⟨e, by subst e; exact h2⟩
      · exact .inl ⟨⟨by omega, h2, fun q hq => h3 q (by omega)⟩, h3 i (by omega)⟩

/-! An order under way. -/
def isL (listed : Array Bool) (j : Nat) : Prop := listed.getD j false = true
theorem isL_set {listed : Array Bool} {i j : Nat} (hi : i < listed.size) : isL (listed.setIfInBounds i true) j ↔ isL listed j ∨ j = i := by
  unfold isL
  by_cases e : i = j
  · subst e; simp [hi]
  · simp [Array.getElem?_setIfInBounds_ne e, Ne.symm e]

/-- Which operations may go next. -/
structure Next (c : Cx) (listed : Array Bool) (i : Nat) (o : Oper) : Prop where
  no : ¬ isL listed i
  op : c.l[i]? = some o
  edges : ∀ e ∈ o.after, Region.binds .any e = true → isL listed e.on

theorem next_of_ready (k : c.Ok) {listed : Array Bool} (hsz : listed.size = c.n) {i : Nat} (h : i ∈ Region.ready .any c.ops listed) : ∃ o, Next c listed i o := by
  obtain ⟨h1, o, h2, h3⟩ := mem_ready.1 h
  have hlt : i < listed.size := by rw [hsz]; exact (Array.getElem?_eq_some_iff.1 h2).1
  refine ⟨o, ?_, by rw [l, Array.getElem?_toList]; exact h2, h3⟩
  unfold isL
  simp [Array.getD, hlt] at h1 ⊢
  exact h1

structure Inv1 (c : Cx) (listed : Array Bool) : Prop where
  size : listed.size = c.n
  down : Down c.l (isL listed)
structure Inv0 (c : Cx) (listed : Array Bool) : Prop extends Inv1 c listed where
  head : ∀ j, isL listed j → j < c.m

theorem Next.pre_in (k : c.Ok) {listed : Array Bool} (v : Inv1 c listed) {i : Nat} {o : Oper} (x : Next c listed i o) {j : Nat} (h : (c.pre i).testBit j = true) : isL listed j ∧ j < i :=
  bef_in k.back v.down (i + 1) i (by omega) x.op x.edges h
theorem Next.not_pre (k : c.Ok) {listed : Array Bool} (v : Inv1 c listed) {i : Nat} {o : Oper} (x : Next c listed i o) {q : Nat} (hq : isL listed q) : (c.pre q).testBit i = false := by
  cases hb : (c.pre q).testBit i with
  | false => rfl
  | true =>
    have hqn : q < c.n := by
      rcases Nat.lt_or_ge q listed.size with h | h
      · rw [v.size] at h; exact h
      · unfold isL at hq; simp [Array.getD, Nat.not_lt.2 h] at hq
    obtain ⟨oq, hoq⟩ := k.op (i := q) hqn
    exact absurd (bef_in k.back v.down (q + 1) q (by omega) hoq (fun e he hbd => v.down q oq hq hoq e he hbd) hb).1 x.no

theorem Next.advance1 (k : c.Ok) {listed : Array Bool} (v : Inv1 c listed) {i : Nat} {o : Oper} (x : Next c listed i o) : Inv1 c (listed.setIfInBounds i true) := by
  have hlt : i < listed.size := by rw [v.size]; exact k.lt x.op
  refine ⟨by simp [v.size], fun j oj hj hoj e he hb => ?_⟩
  rw [isL_set hlt] at hj ⊢
  rcases hj with hj | rfl
  · exact .inl (v.down j oj hj hoj e he hb)
  · rw [x.op] at hoj; cases hoj; exact .inl (x.edges e he hb)
theorem Next.advance (k : c.Ok) {listed : Array Bool} (v : Inv0 c listed) {i : Nat} {o : Oper} (x : Next c listed i o) (hi : i < c.m) : Inv0 c (listed.setIfInBounds i true) := by
  have hlt : i < listed.size := by rw [v.size]; exact k.lt x.op
  refine ⟨x.advance1 k v.toInv1, fun j hj => ?_⟩
  rw [isL_set hlt] at hj
  rcases hj with hj | rfl
  · exact v.head j hj
  · exact hi

theorem Next.agree_fr (k : c.Ok) {listed : Array Bool} (v : Inv1 c listed) {i : Nat} {o : Oper} (x : Next c listed i o) {fr : T AVal} (hf : c.FrSpec (isL listed) fr) {t : Tmp} (ht : t ∈ looksA c.l o) :
    fr.get t = (c.cf i).get t := by
  have hc := k.canon i (Nat.le_of_lt (k.lt x.op))
  by_cases hx : ∃ (j : Nat) (oj : Oper), c.l[j]? = some oj ∧ oj.dst = some t
  · obtain ⟨j, oj, hoj, hd⟩ := hx
    have hne : j ≠ i := fun e => by subst e; rw [x.op] at hoj; cases hoj; exact k.self _ o t x.op hd ht
    have uniq : ∀ q oq, c.l[q]? = some oq → oq.dst = some t → q = j := fun q oq hoq hdq => by
      by_cases e : j = q
      · exact e.symm
      · exact absurd hdq (k.once j q oj oq t hoj hoq e hd).1
    rcases (k.once j i oj o t hoj x.op hne hd).2 ht with hb | hb
    · obtain ⟨h1, h2⟩ := x.pre_in k v hb
      rw [hf.1 j oj t h1 hoj hd, hc.1 j oj t h2 hoj hd]
    · have hlt := k.pre_lt hoj hb
      have hnl : ¬ isL listed j := fun hj => by rw [x.not_pre k v hj] at hb; cases hb
      rw [hf.2 t fun q oq hq hoq hdq => hnl (uniq q oq hoq hdq ▸ hq), hc.2 t fun q oq hq hoq hdq => by have := uniq q oq hoq hdq; omega]
  · rw [hf.2 t fun q oq hq hoq hdq => hx ⟨q, oq, hoq, hdq⟩, hc.2 t fun q oq hq hoq hdq => hx ⟨q, oq, hoq, hdq⟩]

theorem Next.opd_eq (k : c.Ok) {listed : Array Bool} (v : Inv1 c listed) {i : Nat} {o : Oper} (x : Next c listed i o) {fr : T AVal} (hf : c.FrSpec (isL listed) fr) : ∀ y ∈ o.op.operands, opdA fr y = opdA (c.cf i) y :=
  fun y hy => opdA_congr fun t e => x.agree_fr k v hf (by
    subst e
    exact List.mem_append_left _ (List.mem_filterMap.2 ⟨.tmp t, by simpa using hy, rfl⟩))
theorem Next.wanted_eq (k : c.Ok) {listed : Array Bool} (v : Inv1 c listed) {i : Nat} {o : Oper} (x : Next c listed i o) {fr : T AVal} (hf : c.FrSpec (isL listed) fr) : wantedA c.l fr o = wantedA c.l (c.cf i) o := by
  unfold wantedA
  cases hg : o.guard with
  | none => rfl
  | some gw =>
    obtain ⟨g, want⟩ := gw
    have : yieldA c.l fr g = yieldA c.l (c.cf i) g := by
      unfold yieldA
      cases hd : (c.l[g]?).bind (·.dst) with
      | none => rfl
      | some d =>
        simp only
        rw [x.agree_fr k v hf (t := d) (by
          unfold looksA
          rw [hg]
          exact List.mem_append_right _ (by simp [hd]))]
    simp only [this]
end Cx
end Go.Ae
