/- A region's tail: stores that no order holds apart. -/
import Derived.Test.YtmkeapfgondiiaaGreatDoorEvE
import Derived.Scope
set_option linter.unusedVariables false
set_option linter.unusedSimpArgs false
set_option maxHeartbeats 1000000
namespace Go.Ae
open Go

section
variable {P : Program}
theorem storeA_local {h h' : Hp} {t : TypeId} {b off : Nat} {v : AVal} (hs : storeA P h t (.ptr b off) v = some h') :
    ∃ x', ((∀ q, h'.get q = if b = q then some x' else h.get q) ∧ h'.next = h.next) ∧
      ∀ g : Hp, g.get b = h.get b → ∃ g', storeA P g t (.ptr b off) v = some g' ∧ (∀ q, g'.get q = if b = q then some x' else g.get q) ∧ g'.next = g.next := by
  simp only [storeA] at hs
  split at hs
  · rename_i e ext fz cl n hb hn
    cases hc : (!v.isTuple && Nat.beq v.cells.length n && !Nat.beq n 0 && Nat.ble fz off && known cl n off) with
    | false => rw [hc] at hs; cases hs
    | true =>
      rw [hc, cond_true] at hs
      simp only [Option.some.injEq] at hs
      subst hs
      refine ⟨_, ⟨fun q => Hp.get_put _ _ _ _, rfl⟩, fun g hg => ⟨g.put b (.cells e (Nat.max ext (off + n)) fz (fillT v.cells off cl)), ?_, fun q => Hp.get_put _ _ _ _, rfl⟩⟩
      simp only [storeA, hg, hb, hn, hc, cond_true]
  · cases hs

/-- One operation of the tail. -/
inductive StepT (P : Program) (ops : List Oper) (h : Hp) (o : Oper) (fr : T AVal) : AVal → Option (Nat × Blk) → Prop where
  | skip (hw : wantedA ops fr o = false) : StepT P ops h o fr .undef none
  | pure (hw : wantedA ops fr o = true) {v : AVal} (hv : pureOp P fr o = some v) : StepT P ops h o fr v none
  | store (hw : wantedA ops fr o = true) {t : TypeId} {a x : Operand} (ho : o.op = .store t a x) {b off : Nat} {v : AVal} (ha : opdA fr a = some (.ptr b off)) (hx : opdA fr x = some v) {x' : Blk}
      (hs : ∀ g : Hp, g.get b = h.get b → ∃ g', storeA P g t (.ptr b off) v = some g' ∧ (∀ q, g'.get q = if b = q then some x' else g.get q) ∧ g'.next = g.next) : StepT P ops h o fr .undef (some (b, x'))

theorem StepT.other {ops : List Oper} {h h1 : Hp} {o : Oper} {fr : T AVal} {v : AVal} {t : Option (Nat × Blk)} (s : StepT P ops h1 o fr v t) (he : ∀ b x, t = some (b, x) → h1.get b = h.get b) : StepT P ops h o fr v t := by
  cases s with
  | skip hw => exact .skip hw
  | pure hw hv => exact .pure hw hv
  | store hw ho ha hx hs => exact .store hw ho ha hx fun g hg => hs g (by rw [hg, he _ _ rfl])

def TailTr (P : Program) (ops : List Oper) (l : List Oper) (i : Nat) (fr : T AVal) (h : Hp) (met : List Nat) (frF : T AVal) (hF : Hp) : Prop :=
    ∃ (cf : Nat → T AVal) (res : Nat → AVal) (tgt : Nat → Option (Nat × Blk)), cf i = fr ∧ cf (i + l.length) = frF ∧ hF.next = h.next ∧
      (∀ k o, l[k]? = some o → cf (i + k + 1) = putA (cf (i + k)) o.dst (res (i + k)) ∧ StepT P ops h o (cf (i + k)) (res (i + k)) (tgt (i + k))) ∧
      (∀ k b x, k < l.length → tgt (i + k) = some (b, x) → met.contains b = false ∧ hF.get b = some x) ∧
      (∀ q, (∀ k x, k < l.length → tgt (i + k) ≠ some (q, x)) → hF.get q = h.get q) ∧
      (∀ k k' b x x', k < l.length → k' < l.length → tgt (i + k) = some (b, x) → tgt (i + k') = some (b, x') → k = k')

theorem tail_trace {ops : List Oper} : ∀ (l : List Oper) (i : Nat) (fr : T AVal) (h : Hp) (met : List Nat) (frF : T AVal) (hF : Hp), evalTail P ops l fr h met = some (frF, hF) → TailTr P ops l i fr h met frF hF
  | [], i, fr, h, met, frF, hF, he => by
    simp only [evalTail, Option.some.injEq, Prod.mk.injEq] at he
    obtain ⟨rfl, rfl⟩ := he
    exact ⟨fun _ => fr, fun _ => .undef, fun _ => none, rfl, rfl, rfl, fun k o h => by simp at h, fun k b x h => by simp at h, fun q _ => rfl, fun k k' b x x' h => by simp at h⟩
  | o :: l, i, fr, h, met, frF, hF, he => by
    have go : ∀ (v : AVal) (t : Option (Nat × Blk)) (h1 : Hp) (met1 : List Nat), StepT P ops h o fr v t → h1.next = h.next → (∀ q, h1.get q = match t with | some (b, x) => if b = q then some x else h.get q | none => h.get q) →
        (∀ b x, t = some (b, x) → met.contains b = false ∧ met1.contains b = true) → (∀ b, met1.contains b = false → met.contains b = false) →
        evalTail P ops l (putA fr o.dst v) h1 met1 = some (frF, hF) → TailTr P ops (o :: l) i fr h met frF hF := by
      intro v t h1 met1 hst hn1 hg1 hm hm1 hev
      obtain ⟨cf, res, tgt, e1, e2, e3, e4, e5, e6, e7⟩ := tail_trace l (i + 1) _ h1 met1 frF hF hev
      have hsame : ∀ k b x, k < l.length → tgt (i + 1 + k) = some (b, x) → h1.get b = h.get b := fun k b x hk ht => by
        rw [hg1]
        cases t with
        | none => rfl
        | some bx =>
          obtain ⟨b0, x0⟩ := bx
          simp only
          have h1 := (hm b0 x0 rfl).2
          have h2 := (e5 k b x hk ht).1
          rw [if_neg (fun e => by subst e; rw [h1] at h2; cases h2)]
      refine ⟨fun j => if j = i then fr else cf j, fun j => if j = i then v else res j, fun j => if j = i then t else tgt j, by simp, ?_, by rw [e3, hn1], ?_, ?_, ?_, ?_⟩
      · have : i + (o :: l).length = i + 1 + l.length := by simp; omega
        rw [this]; simp only; rw [if_neg (by omega)]; exact e2
      · intro k o' hk
        cases k with
        | zero =>
          simp only [List.getElem?_cons_zero, Option.some.injEq] at hk
          subst hk
          simp only [Nat.add_zero, if_pos]
          rw [if_neg (by omega)]
          exact ⟨e1, hst⟩
        | succ k =>
          have hk' : l[k]? = some o' := by simpa using hk
          have hlt : k < l.length := (List.getElem?_eq_some_iff.1 hk').1
          have := e4 k o' hk'
          have e : i + 1 + k = i + (k + 1) := by omega
          rw [e] at this
          simp only
          rw [if_neg (by omega), if_neg (by omega), if_neg (by omega), if_neg (by omega)]
          exact ⟨this.1, this.2.other fun b x ht => hsame k b x hlt (by rw [e]; exact ht)⟩
      · intro k b x hk ht
        cases k with
        | zero =>
          simp only [Nat.add_zero, if_pos] at ht
          refine ⟨(hm b x ht).1, ?_⟩
          rw [e6 b fun k y hk' hy => ?_]
          · rw [hg1, ht]; simp
          · have h1 := (e5 k b y hk' hy).1
            rw [(hm b x ht).2] at h1; cases h1
        | succ k =>
          simp only at ht
          rw [if_neg (by omega)] at ht
          have e : i + 1 + k = i + (k + 1) := by omega
          rw [← e] at ht
          have := e5 k b x (by simpa using hk) ht
          exact ⟨hm1 b this.1, this.2⟩
      · intro q hq
        rw [e6 q fun k y hk' hy => ?_]
        · rw [hg1]
          cases t with
          | none => rfl
          | some bx =>
            obtain ⟨b0, x0⟩ := bx
            simp only
            rw [if_neg]
            intro e
            subst e
            exact hq 0 x0 (by simp) (by simp)
        · have := hq (k + 1) y (by simpa using hk')
          simp only at this
          rw [if_neg (by omega)] at this
          have e : i + 1 + k = i + (k + 1) := by omega
          rw [← e] at this
          exact this hy
      · intro k k' b x x' hk hk' ht ht'
        have e : ∀ k, i + (k + 1) = i + 1 + k := fun k => by omega
        cases k with
        | zero =>
          cases k' with
          | zero => rfl
          | succ k' =>
            simp only [Nat.add_zero, if_pos] at ht
            simp only at ht'
            rw [if_neg (by omega), e] at ht'
            have h1 := (e5 k' b x' (by simpa using hk') ht').1
            rw [(hm b x ht).2] at h1; cases h1
        | succ k =>
          simp only at ht
          rw [if_neg (by omega), e] at ht
          cases k' with
          | zero =>
            simp only [Nat.add_zero, if_pos] at ht'
            have h1 := (e5 k b x (by simpa using hk) ht).1
            rw [(hm b x' ht').2] at h1; cases h1
          | succ k' =>
            simp only at ht'
            rw [if_neg (by omega), e] at ht'
            rw [e7 k k' b x x' (by simpa using hk) (by simpa using hk') ht ht']
    unfold evalTail at he
    cases hw : wantedA ops fr o with
    | false =>
      rw [hw, cond_false] at he
      exact go _ none h met (.skip hw) rfl (fun q => rfl) (fun b x e => by cases e) (fun b hb => hb) he
    | true =>
      rw [hw, cond_true] at he
      split at he
      · rename_i t a x ho
        split at he
        · rename_i b off v ha hx
          cases hm : met.contains b with
          | true => rw [hm] at he; cases he
          | false =>
            rw [hm, cond_false] at he
            split at he
            · rename_i h1 hs
              obtain ⟨x', ⟨hx1, hx2⟩, hx3⟩ := storeA_local hs
              refine go _ (some (b, x')) h1 (b :: met) (.store hw ho ha hx hx3) hx2 (fun q => hx1 q) (fun b' y e => ?_) (fun b' hb' => ?_) he
              · simp only [Option.some.injEq, Prod.mk.injEq] at e
                obtain ⟨rfl, rfl⟩ := e
                exact ⟨hm, by simp⟩
              · simp only [List.contains_cons, Bool.or_eq_false_iff] at hb'; exact hb'.2
            · cases he
        · cases he
      · split at he
        · rename_i v hv
          exact go _ none h met (.pure hw hv) rfl (fun q => rfl) (fun b x e => by cases e) (fun b hb => hb) he
        · cases he
end
end Go.Ae
/- A region in any order: all of it. -/
set_option linter.unusedVariables false
set_option linter.unusedSimpArgs false
set_option maxHeartbeats 1000000
namespace Go.Ae
open Go

theorem Frm.congr {β β' : Beta} {h h1 h2 : Hp} {w w' : World} (f : Frm β h w β' h1 w') (hn : h2.next = h1.next) (hg : ∀ b, h2.get b = h1.get b) : Frm β h w β' h2 w' where
  next := by rw [hn]; exact f.next
  ext := f.ext
  size := f.size
  same := f.same
  range := fun b x L hb => f.range b x L (by rw [← hg]; exact hb)
  dom := fun b hb hn => by rw [hg]; exact f.dom b hb hn
  os := f.os
  tape := f.tape
  output := f.output
theorem Rel.congr {E : Env} {β : Beta} {h1 h2 : Hp} {w : World} (r : Rel E β h1 w) (hn : h2.next = h1.next) (hg : ∀ b, h2.get b = h1.get b) : Rel E β h2 w :=
  r.sub (fun b x hx => by rw [← hg]; exact hx) hn
theorem FrR.congr {E : Env} {β : Beta} {n : Nat} {f g : T AVal} {a : Act} (h : FrR E β n f a) (hg : ∀ t, g.get t = f.get t) : FrR E β n g a :=
  ⟨h.size, fun t => by rw [hg]; exact h.val t, h.defers⟩

namespace Cx
variable {c : Cx} {Q : Exit → Act → World → Prop}

/-- All rounds. -/
theorem any_ind (k : c.Ok) {J : Array Bool → Act → World → Prop} (hJ : ∀ listed a w, J listed a w → Inv1 c listed)
    (hstep : ∀ listed a w i o, J listed a w → Next c listed i o → wpOp c.P c.ops Q i (J (listed.setIfInBounds i true)) a w)
    (hend : ∀ listed a w, J listed a w → (∀ j, j < c.n → isL listed j) → Q .normal a w) :
    ∀ (fuel : Nat) (listed : Array Bool) (a : Act) (w : World), fuel + cntB (fun j => listed.getD j false) c.n = c.n → J listed a w → wpAny c.P .any c.ops Q fuel listed a w := by
  have hready : ∀ (listed : Array Bool) (a : Act) (w : World), J listed a w → Region.ready .any c.ops listed = [] → ∀ j, j < c.n → isL listed j := by
    intro listed a w hJ' hr
    have v := hJ listed a w hJ'
    rcases Classical.em (∃ j, j < c.n ∧ ¬ isL listed j) with hx | hx
    · obtain ⟨j, ⟨hj, hno⟩, hmin⟩ : ∃ j, (j < c.n ∧ ¬ isL listed j) ∧ ∀ q, (q < c.n ∧ ¬ isL listed q) → j ≤ q := by
        obtain ⟨n, hn⟩ := hx
        induction n using Nat.strongRecOn with
        | _ n ih =>
          by_cases hm : ∃ q, q < n ∧ (q < c.n ∧ ¬ isL listed q)
          · obtain ⟨q, hlt, hp⟩ := hm; exact ih q hlt hp
          · exact ⟨n, hn, fun q hp => Nat.le_of_not_lt fun hlt => hm ⟨q, hlt, hp⟩⟩
      obtain ⟨o, ho⟩ := k.op hj
      have : j ∈ Region.ready .any c.ops listed := by
        rw [mem_ready]
        refine ⟨?_, o, by have := ho; rw [l, Array.getElem?_toList] at this; exact this, fun e he hb => ?_⟩
        · have hlt : j < listed.size := by rw [v.size]; exact hj
          unfold isL at hno
          simp [Array.getD, hlt] at hno ⊢
          exact hno
        · have hlt := k.back j o ho e he hb
          rcases Classical.em (isL listed e.on) with h | h
          · exact h
          · have := hmin e.on ⟨by omega, h⟩; omega
      rw [hr] at this; cases this
    · intro j hj
      rcases Classical.em (isL listed j) with h | h
      · exact h
      · exact absurd ⟨j, hj, h⟩ hx
  intro fuel
  induction fuel with
  | zero =>
    intro listed a w hc hJ'
    have hall : ∀ j, j < c.n → isL listed j := cntB_full (f := fun j => listed.getD j false) (by omega)
    refine ⟨?_, hend listed a w hJ' hall⟩
    cases hr : Region.ready .any c.ops listed with
    | nil => rfl
    | cons i rest =>
      obtain ⟨o, x⟩ := next_of_ready k (hJ _ _ _ hJ').size (i := i) (by rw [hr]; exact List.mem_cons_self ..)
      exact absurd (hall i (k.lt x.op)) x.no
  | succ fuel ih =>
    intro listed a w hc hJ'
    refine ⟨fun hr => hend listed a w hJ' (hready listed a w hJ' hr), fun i hi => ?_⟩
    obtain ⟨o, x⟩ := next_of_ready k (hJ _ _ _ hJ').size hi
    refine wpOp_mono (fun a' w' h => ih _ a' w' ?_ h) (hstep listed a w i o hJ' x)
    have hn := k.lt x.op
    have hno : listed.getD i false = false := by
      cases h : listed.getD i false with
      | false => rfl
      | true => exact absurd h x.no
    have := cntB_add (f := fun j => listed.getD j false) (g := fun j => (listed.setIfInBounds i true).getD j false) (i := i) hno
      (getD_set_same (by rw [(hJ _ _ _ hJ').size]; exact hn)) (fun q hq => getD_set _ (Ne.symm hq)) (n := c.n)
    rw [if_pos hn] at this
    rw [this]; omega

/-- The tail, laid out. -/
structure Tl (c : Cx) (hT hF : Hp) (tgt : Nat → Option (Nat × Blk)) : Prop where
  step : ∀ (i : Nat) (o : Oper), c.m ≤ i → c.l[i]? = some o → StepT c.P c.l hT o (c.cf i) (c.res i) (tgt i)
  hit : ∀ i b x, c.m ≤ i → i < c.n → tgt i = some (b, x) → hF.get b = some x
  miss : ∀ q, (∀ i x, c.m ≤ i → i < c.n → tgt i ≠ some (q, x)) → hF.get q = hT.get q
  one : ∀ i j b x x', c.m ≤ i → i < c.n → c.m ≤ j → j < c.n → tgt i = some (b, x) → tgt j = some (b, x') → i = j
  next : hF.next = hT.next
  ahead : ∀ (i : Nat) (o : Oper), c.m ≤ i → c.l[i]? = some o → ∀ j, j < c.m → (c.pre i).testBit j = true
  pub : hT = publishAll c.p.base (c.st c.m).pend (c.st c.m).h

structure Inv2 (c : Cx) (hT : Hp) (tgt : Nat → Option (Nat × Blk)) (listed : Array Bool) (a : Act) (w : World) : Prop where
  v : Inv1 c listed
  head : ∀ j, j < c.m → isL listed j
  ex : ∃ fr β g, FrR c.E β c.N fr a ∧ c.FrSpec (isL listed) fr ∧ Rel c.E β g w ∧ Frm c.β0 c.h0 c.w0 β g w ∧ g.next = hT.next ∧
    (∀ i b x, c.m ≤ i → i < c.n → isL listed i → tgt i = some (b, x) → g.get b = some x) ∧
    (∀ q, (∀ i x, c.m ≤ i → i < c.n → isL listed i → tgt i ≠ some (q, x)) → g.get q = hT.get q)

theorem conv (k : c.Ok) {hT hF : Hp} {tgt : Nat → Option (Nat × Blk)} (t : Tl c hT hF tgt) {listed : Array Bool} {a : Act} {w : World} (I : Inv c listed a w) (hall : ∀ j, j < c.m → isL listed j) : Inv2 c hT tgt listed a w := by
  obtain ⟨v, fr, β, hh, hS, hf, hfs, hr, hfrm, hsp, hfresh⟩ := I
  have hiff : ∀ j, isL listed j ↔ j < c.m := fun j => ⟨v.head j, hall j⟩
  have heN : c.eN listed = cntB (fun j => c.em.testBit j) c.m := by
    refine cntB_below (fun q hq => ?_) (fun q hq => ?_) k.mle
    · have := hall q hq
      unfold isL at this
      rw [this]; rfl
    · cases hl : listed.getD q false with
      | false => rfl
      | true => have := v.head q hl; omega
  have hSe : (c.st c.m).h = hS := by
    have := hsp.at_
    rw [heN, k.heap_at (Nat.le_refl _)] at this
    exact Option.some.inj this
  have hpub := publishAll_get (base := c.p.base) (l := (c.st c.m).pend) (h := hS) (f := c.blk) fun j b hj => ((k.pend_at c.m (Nat.le_refl _) j b).1 hj).2.1
  have hTe : hT = publishAll c.p.base (c.st c.m).pend hS := by rw [t.pub, hSe]
  have hg : ∀ b, hT.get b = hh.get b := fun b => by
    rw [hTe, hpub.2, hsp.get]
    by_cases hc : c.p.base ≤ b ∧ ∃ z, (b - c.p.base, z) ∈ (c.st c.m).pend
    · obtain ⟨h1, z, hz⟩ := hc
      have hz' := (k.pend_at c.m (Nat.le_refl _) _ z).1 hz
      rw [if_pos ⟨h1, z, hz⟩, if_pos ⟨h1, by have := k.mle; omega⟩, pendF_of (hall _ hz'.1) fun q hq => hz'.2.2 q ((hiff q).1 hq)]
    · rw [if_neg hc]
      by_cases hc2 : c.p.base ≤ b ∧ b < c.p.base + c.n
      · rw [if_pos hc2]
        cases hp : pendF c listed (b - c.p.base) with
        | none => rfl
        | some y =>
          obtain ⟨h1, h2, h3⟩ := pendF_some hp
          exact absurd ⟨hc2.1, y, (k.pend_at c.m (Nat.le_refl _) _ y).2 ⟨(hiff _).1 h1, h3, fun q hq => h2 q (hall q hq)⟩⟩ hc
      · rw [if_neg hc2]
  have hn : hT.next = hh.next := by rw [hTe, hpub.1, hsp.next]
  exact ⟨v.toInv1, hall, fr, β, hT, hf, hfs, hr.congr hn hg, hfrm.congr hn hg, rfl, fun i b x h1 _ h3 => by have := v.head i h3; omega, fun _ _ => rfl⟩

theorem step2 (k : c.Ok) {hT hF : Hp} {tgt : Nat → Option (Nat × Blk)} (t : Tl c hT hF tgt) {listed : Array Bool} {a : Act} {w : World} (I : Inv2 c hT tgt listed a w) {i : Nat} {o : Oper} (x : Next c listed i o) :
    wpOp c.P c.ops Q i (Inv2 c hT tgt (listed.setIfInBounds i true)) a w := by
  obtain ⟨v, hall, fr, β, g, hf, hfs, hr, hfrm, hgn, hhit, hmiss⟩ := I
  have hn : i < c.n := k.lt x.op
  have hlt : i < listed.size := by rw [v.size]; exact hn
  have hL : ∀ j, isL (listed.setIfInBounds i true) j ↔ isL listed j ∨ j = i := fun j => isL_set hlt
  have hi : c.m ≤ i := Nat.le_of_not_lt fun h => x.no (hall i h)
  have v' := x.advance1 k v
  have hall' : ∀ j, j < c.m → isL (listed.setIfInBounds i true) j := fun j hj => (hL j).2 (.inl (hall j hj))
  have hfs' := hfs.put k x.op x.no hL
  have hop : c.ops[i]? = some o := by have := x.op; rw [l, Array.getElem?_toList] at this; exact this
  have hwanted : Region.wanted o (yielded c.ops a.tmps) = wantedA c.l (c.cf i) o := (wanted_eq hf c.ops o).trans (x.wanted_eq k v hfs)
  have hopd := x.opd_eq k v hfs
  have hst := t.step i o hi x.op
  have keep : tgt i = none → ∀ cv, VR c.E.ρ β (c.res i) cv → Inv2 c hT tgt (listed.setIfInBounds i true) (a.put o.dst cv) w := fun hno cv hcv => by
    refine ⟨v', hall', _, β, g, hf.put hcv o.dst (k.fits i o · x.op), hfs', hr, hfrm, hgn, fun j b y h1 h2 h3 h4 => ?_, fun q hq => hmiss q fun j y h1 h2 h3 => hq j y h1 h2 ((hL j).2 (.inl h3))⟩
    rcases (hL j).1 h3 with h3 | rfl
    · exact hhit j b y h1 h2 h3 h4
    · rw [hno] at h4; cases h4
  unfold wpOp
  rw [hop]
  simp only
  rw [hwanted]
  generalize hv0 : c.res i = v0 at hst
  generalize htg : tgt i = tg at hst
  cases hst with
  | skip hw =>
    rw [hw]
    simp only [Bool.false_eq_true, if_false]
    exact keep htg undef (by rw [hv0]; exact undef_VR)
  | pure hw hv =>
    rw [hw, if_pos rfl]
    left
    rw [← pureOp_congr hopd] at hv
    obtain ⟨cv, hrun, hcv⟩ := pure_sound hv hf
    unfold Oper.wp
    rw [hrun w]
    exact keep htg cv (by rw [hv0]; exact hcv)
  | @store hw ty p y ho b off u ha hx x' hs =>
    rw [hw, if_pos rfl]
    left
    rw [← hopd p (by rw [ho]; simp [Op.operands])] at ha
    rw [← hopd y (by rw [ho]; simp [Op.operands])] at hx
    have hgb : g.get b = hT.get b := hmiss b fun j z h1 h2 h3 h4 => by
      have := t.one i j b x' z hi hn h1 h2 htg h4
      subst this; exact x.no h3
    obtain ⟨g', hs1, hs2, hs3⟩ := hs g hgb
    obtain ⟨w', hrun, hr', hfr'⟩ := store_sound hr hs1 (opdA_sound hf ha) (opdA_sound hf hx)
    have hrun' : (execOp a.eval o).run c.P w = .ok .skip w' := by
      simp [execOp, ho, hrun, Result.andThen]
    unfold Oper.wp
    rw [hrun']
    show Inv2 c hT tgt _ (a.put o.dst undef) w'
    refine ⟨v', hall', _, β, g', (hf.mono (.refl _)).put (by rw [hv0]; exact undef_VR) o.dst (k.fits i o · x.op), hfs', hr', hfrm.trans hfr', by rw [hs3, hgn], fun j q z h1 h2 h3 h4 => ?_, fun q hq => ?_⟩
    · rw [hs2]
      rcases (hL j).1 h3 with h3 | rfl
      · rw [if_neg]
        · exact hhit j q z h1 h2 h3 h4
        · intro e
          subst e
          have := t.one i j b x' z hi hn h1 h2 htg h4
          subst this; exact x.no h3
      · rw [htg] at h4
        simp only [Option.some.injEq, Prod.mk.injEq] at h4
        obtain ⟨rfl, rfl⟩ := h4
        rw [if_pos rfl]
    · rw [hs2, if_neg]
      · exact hmiss q fun j z h1 h2 h3 => hq j z h1 h2 ((hL j).2 (.inl h3))
      · intro e
        subst e
        exact hq i x' hi hn ((hL i).2 (.inr rfl)) htg

/-- Whatever the order: at the end the text's memory and slots. -/
theorem all_ok (k : c.Ok) {hT hF : Hp} {tgt : Nat → Option (Nat × Blk)} (t : Tl c hT hF tgt) {a : Act} {w : World} (hw : Rel c.E c.β0 c.h0 w) (hfr : Frm c.β0 c.h0 c.w0 c.β0 c.h0 w) (hf : FrR c.E c.β0 c.N c.fr0 a)
    (hQ : ∀ β' a' w', FrR c.E β' c.N (c.cf c.n) a' → Rel c.E β' hF w' → Frm c.β0 c.h0 c.w0 β' hF w' → Q .normal a' w') : wpAny c.P .any c.ops Q c.n (Array.replicate c.n false) a w := by
  have hnoL : ∀ j, ¬ isL (Array.replicate c.n false) j := fun j h => by
    unfold isL at h
    simp only [Array.getD_eq_getD_getElem?, Array.getElem?_replicate] at h
    split at h <;> simp at h
  refine any_ind k (J := fun listed a w => Inv c listed a w ∨ Inv2 c hT tgt listed a w) (fun listed a w h => h.elim (fun h => h.v.toInv1) fun h => h.v) (fun listed a w i o hJ x => ?_) (fun listed a w hJ hall => ?_) c.n _ a w ?_ (.inl ?_)
  · by_cases hall : ∀ j, j < c.m → isL listed j
    · have I2 : Inv2 c hT tgt listed a w := hJ.elim (fun I => conv k t I hall) id
      exact wpOp_mono (fun _ _ h => .inr h) (step2 k t I2 x)
    · rcases hJ with I | I
      · refine step_ok k I x (Nat.lt_of_not_le fun hle => hall fun j hj => (x.pre_in k I.v.toInv1 (t.ahead i o hle x.op j hj)).1) fun _ _ h => .inl h
      · exact absurd I.head hall
  · have I2 : Inv2 c hT tgt listed a w := hJ.elim (fun I => conv k t I fun j hj => hall j (by have := k.mle; omega)) id
    obtain ⟨v, _, fr, β, g, hf, hfs, hr, hfrm, hgn, hhit, hmiss⟩ := I2
    have hg : ∀ b, hF.get b = g.get b := fun b => by
      by_cases hx : ∃ i x, c.m ≤ i ∧ i < c.n ∧ tgt i = some (b, x)
      · obtain ⟨i, x, h1, h2, h3⟩ := hx
        rw [t.hit i b x h1 h2 h3, hhit i b x h1 h2 (hall i h2) h3]
      · rw [t.miss b fun i x h1 h2 h3 => hx ⟨i, x, h1, h2, h3⟩, hmiss b fun i x h1 h2 _ h3 => hx ⟨i, x, h1, h2, h3⟩]
    have hc := k.canon c.n (Nat.le_refl _)
    refine hQ β a w (hf.congr fun u => ?_) (hr.congr (by rw [t.next, hgn]) hg) (hfrm.congr (by rw [t.next, hgn]) hg)
    by_cases hx : ∃ (j : Nat) (oj : Oper), c.l[j]? = some oj ∧ oj.dst = some u
    · obtain ⟨j, oj, hoj, hd⟩ := hx
      have hj := k.lt hoj
      rw [hc.1 j oj u hj hoj hd, hfs.1 j oj u (hall j hj) hoj hd]
    · rw [hc.2 u fun j oj _ hoj hd => hx ⟨j, oj, hoj, hd⟩, hfs.2 u fun j oj _ hoj hd => hx ⟨j, oj, hoj, hd⟩]
  · have : cntB (fun j => (Array.replicate c.n false).getD j false) c.n = 0 := by
      have h1 := cntB_congr (f := fun j => (Array.replicate c.n false).getD j false) (g := fun _ => false) (n := c.n) fun q _ => by
        cases h : (Array.replicate c.n false).getD q false with
        | false => rfl
        | true => exact absurd h (hnoL q)
      rw [h1]
      have : ∀ n, cntB (fun _ => false) n = 0 := fun n => by induction n with
        | zero => rfl
        | succ n ih => exact ih
      exact this _
    omega
  · -- the start
    have hS0 : c.eN (Array.replicate c.n false) = 0 := by
      have h1 := cntB_congr (f := fun j => (Array.replicate c.n false).getD j false && c.em.testBit j) (g := fun _ => false) (n := c.n) fun q _ => by
        cases h : (Array.replicate c.n false).getD q false with
        | false => rfl
        | true => exact absurd h (hnoL q)
      unfold eN
      rw [h1]
      have : ∀ n, cntB (fun _ => false) n = 0 := fun n => by induction n with
        | zero => rfl
        | succ n ih => exact ih
      exact this _
    have hat := k.heap_at (i := 0) (Nat.zero_le _)
    have hb : ∀ j, c.h0.get (c.p.base + j) = none := fun j => by
      cases h : c.h0.get (c.p.base + j) with
      | none => rfl
      | some y => have := (hw.blk _ y h).1; rw [k.base] at this; omega
    have hr' : Rel c.E c.β0 (c.st 0).h w := by
      rw [k.s0h]
      exact ⟨fun b y hy => by obtain ⟨h1, h2⟩ := hw.blk b y hy; exact ⟨by show b < c.h0.next + c.n; omega, h2⟩, hw.inj, fun b hb => hw.fresh b (by have : c.h0.next + c.n ≤ b := hb; omega), hw.glob, hw.size⟩
    have hfr' : Frm c.β0 c.h0 c.w0 c.β0 (c.st 0).h w := by
      rw [k.s0h]
      exact ⟨Nat.le_add_right _ _, hfr.ext, hfr.size, hfr.same, hfr.range, fun b hb hn => hn, hfr.os, hfr.tape, hfr.output⟩
    refine ⟨⟨⟨by simp, fun j o hj => absurd hj (hnoL j)⟩, fun j hj => absurd hj (hnoL j)⟩, c.fr0, c.β0, (c.st 0).h, (c.st 0).h, hf, ⟨fun j o d hj => absurd hj (hnoL j), fun u _ => rfl⟩, hr', hfr', ⟨?_, rfl, ?_, fun b => ?_, fun j hj _ => ?_⟩, fun j hj _ => ?_⟩
    · rw [hS0]; exact hat
    · rw [k.s0h, k.base]; exact Nat.le_refl _
    · have : ∀ j, pendF c (Array.replicate c.n false) j = none := fun j => by
        cases h : pendF c (Array.replicate c.n false) j with
        | none => rfl
        | some y => exact absurd (pendF_some h).1 (hnoL j)
      rw [this]
      split <;> rfl
    · rw [k.s0h]; exact hb j
    · exact hw.fresh _ (by rw [k.base]; omega)
end Cx
end Go.Ae
/- Regions whose order the run draws. -/
set_option linter.unusedVariables false
set_option linter.unusedSimpArgs false
set_option maxHeartbeats 1000000
namespace Go.Ae
open Go

theorem tail_le (P : Program) (l : List Oper) : tailOf P l ≤ l.length := by
  unfold tailOf
  simp only
  split
  · exact Nat.le_refl _
  · cases h : (List.range l.length).find? _ with
    | none => exact Nat.le_refl _
    | some k =>
      have := List.mem_of_find?_eq_some h
      simp only [List.mem_range] at this
      exact Nat.le_of_lt this
theorem tail_ahead (P : Program) {l : List Oper} {i : Nat} {o : Oper} (hi : tailOf P l ≤ i) (ho : l[i]? = some o) {j : Nat} (hj : j < tailOf P l) : ((befores l).getD i 0).testBit j = true := by
  have hlt : i < l.length := (List.getElem?_eq_some_iff.1 ho).1
  unfold tailOf at hi hj
  simp only at hi hj
  split at hi
  · omega
  · rename_i hch
    rw [if_neg hch] at hj
    cases h : (List.range l.length).find? (fun k => (List.range l.length).all fun i => Nat.blt i k ||
      (((l[i]?).map fun o => isStore o || isPure P o).getD false && Nat.beq (((befores l).getD i 0) &&& (2 ^ k - 1)) (2 ^ k - 1))) with
    | none => rw [h] at hi; simp only [Option.getD_none] at hi; omega
    | some k =>
      rw [h] at hi hj
      simp only [Option.getD_some] at hi hj
      have hp := List.find?_some h
      rw [List.all_eq_true] at hp
      have := hp i (List.mem_range.2 hlt)
      simp only [Bool.or_eq_true, Bool.and_eq_true] at this
      rcases this with h1 | ⟨_, h2⟩
      · have : i < k := by simpa [Nat.blt_eq] using h1
        omega
      · have h3 := Nat.eq_of_beq_eq_true h2
        have h4 : (2 ^ k - 1).testBit j = true := by rw [Nat.testBit_two_pow_sub_one]; simpa using hj
        rw [← h3, Nat.testBit_and, Bool.and_eq_true] at h4
        exact h4.1

theorem orderly_facts {P : Program} {l : List Oper} (h : orderly P l = true) :
    Back l ∧ chained P l (tailOf P l) = true ∧
    (∀ (i j : Nat) (oi oj : Oper) (d : Tmp), l[i]? = some oi → l[j]? = some oj → i ≠ j → oi.dst = some d → oj.dst ≠ some d ∧ (d ∈ looksA l oj → ((befores l).getD j 0).testBit i = true ∨ ((befores l).getD i 0).testBit j = true)) ∧
    (∀ (i : Nat) (o : Oper) (d : Tmp), l[i]? = some o → o.dst = some d → d ∉ looksA l o) := by
  unfold orderly at h
  simp only [Bool.and_eq_true] at h
  obtain ⟨⟨⟨⟨h1, h2⟩, h3⟩, h4⟩, _⟩ := h
  rw [List.all_eq_true] at h1 h3 h4
  refine ⟨fun i o ho e he hb => ?_, h2, fun i j oi oj d hi hj hne hd => ?_, fun i o d ho hd hm => ?_⟩
  · have := h1 (o, i) (List.mem_zipIdx_iff_getElem?.2 ho)
    simp only at this
    rw [List.all_eq_true] at this
    have := this e (by simpa using he)
    rw [hb] at this
    simpa [Nat.blt_eq] using this
  · have := h3 (oi, i) (List.mem_zipIdx_iff_getElem?.2 hi)
    simp only [hd] at this
    rw [List.all_eq_true] at this
    have := this (oj, j) (List.mem_zipIdx_iff_getElem?.2 hj)
    simp only [Bool.or_eq_true, Bool.and_eq_true, bne_iff_ne, ne_eq, Bool.not_eq_true'] at this
    rcases this with h5 | ⟨h5, h6⟩
    · exact absurd (Nat.eq_of_beq_eq_true h5) hne
    · refine ⟨h5, fun hm => ?_⟩
      rcases h6 with (h6 | h6) | h6
      · rw [List.contains_iff_mem.2 hm] at h6; cases h6
      · exact .inl h6
      · exact .inr h6
  · have := h4 (o, i) (List.mem_zipIdx_iff_getElem?.2 ho)
    simp only [hd, Bool.not_eq_true'] at this
    rw [List.contains_iff_mem.2 hm] at this; cases this

theorem chained_spec {P : Program} {l : List Oper} {m : Nat} (h : chained P l m = true) {i j : Nat} (hij : i < j) (hj : j < m) (hi : (effMask P l).testBit i = true) (hje : (effMask P l).testBit j = true) : ((befores l).getD j 0).testBit i = true := by
  unfold chained at h
  simp only at h
  rw [List.all_eq_true] at h
  have := h j (List.mem_range.2 hj)
  rw [hje] at this
  simp only [Bool.not_true, Bool.false_or] at this
  rw [List.all_eq_true] at this
  have := this i (List.mem_range.2 hij)
  rw [hi] at this
  simpa using this

theorem draw_sound {P : Program} {E : Env} {H : Hook} {n : Nat} (hop : ∀ m < n, OpSound P E H m) (hmix : P.follows .mixedOrders = true) {id : Nat} {ops : Array Oper} {N : Nat} (hfit : fitsC N (.region id ops true) = true)
    {fr : T AVal} {h : Hp} {r : Res} {β : Beta} {w : World} {a : Act} (he : evalCode P E.G H n (.region id ops true) fr h = some r) (rel : Rel E β h w) (hf : FrR E β N fr a) :
    (Code.region id ops true).wp P (Post E β h w N r) a w := by
  cases n with
  | zero => simp [evalCode] at he
  | succ n =>
    simp only [evalCode] at he
    cases ho : orderly P ops.toList with
    | false => rw [ho] at he; cases he
    | true =>
      rw [ho, cond_true] at he
      split at he
      · rename_i s hs
        cases hag : s.rds.all (agree P E.G (s.hs ++ [s.h])) with
        | false => rw [hag] at he; cases he
        | true =>
          rw [hag, cond_true] at he
          split at he
          · rename_i fr' h' ht
            simp only [Option.some.injEq] at he
            subst he
            obtain ⟨hback, hchain, honce, hself⟩ := orderly_facts ho
            have hle := tail_le P ops.toList
            obtain ⟨st, res1, blk1, hst0, hstm, hstep⟩ := trace n (Nat.le_refl n) _ 0 _ s hs
            have hlen : (ops.toList.take (planOf P ops.toList h.next).tail).length = tailOf P ops.toList := by
              show (ops.toList.take (tailOf P ops.toList)).length = _
              rw [List.length_take]; omega
            rw [hlen, Nat.zero_add] at hstm
            obtain ⟨cf2, res2, tgt, hc1, hc2, hc3, hc4, hc5, hc6, hc7⟩ := tail_trace _ (tailOf P ops.toList) _ _ _ _ _ ht
            have hdl : (ops.toList.drop (planOf P ops.toList h.next).tail).length = ops.size - tailOf P ops.toList := by
              show (ops.toList.drop (tailOf P ops.toList)).length = _
              simp
            have hsz : ops.toList.length = ops.size := by simp
            rw [hsz] at hle
            let m := tailOf P ops.toList
            let c : Cx := { P := P, E := E, H := H, nmax := n, ops := ops, p := planOf P ops.toList h.next, m := m, N := N, st := st,
                            res := fun j => if j < m then res1 j else res2 j, blk := fun j => if j < m then blk1 j else none,
                            fr0 := fr, cf := fun j => if j < m then (st j).fr else cf2 j, h0 := h, β0 := β, w0 := w }
            have hcfm : ∀ j, j ≤ m → c.cf j = (st j).fr := fun j hj => by
              show (if j < m then _ else _) = _
              by_cases hlt : j < m
              · rw [if_pos hlt]
              · have : j = m := by omega
                subst this
                rw [if_neg hlt, hc1, hstm]
            have hcft : ∀ j, m ≤ j → c.cf j = cf2 j := fun j hj => by
              show (if j < m then _ else _) = _
              rw [if_neg (by omega)]
            have hres1 : ∀ j, j < m → c.res j = res1 j := fun j hj => if_pos hj
            have hres2 : ∀ j, m ≤ j → c.res j = res2 j := fun j hj => if_neg (by omega)
            have hblk1 : ∀ j, j < m → c.blk j = blk1 j := fun j hj => if_pos hj
            have hstep1 : ∀ (i : Nat) (o : Oper), i < m → ops.toList[i]? = some o → StepD P E.G H n ops.toList c.p i o (st i) (st (i + 1)) (res1 i) (blk1 i) := fun i o hi hoi => by
              have := hstep i o (by
                show (ops.toList.take (tailOf P ops.toList))[i]? = some o
                rw [List.getElem?_take_of_lt hi]; exact hoi)
              simpa using this
            have hstep2 : ∀ (i : Nat) (o : Oper), m ≤ i → ops.toList[i]? = some o → cf2 (i + 1) = putA (cf2 i) o.dst (res2 i) ∧ StepT P ops.toList (publishAll c.p.base s.pend s.h) o (cf2 i) (res2 i) (tgt i) := fun i o hi hoi => by
              have := hc4 (i - m) o (by
                show (ops.toList.drop (tailOf P ops.toList))[i - m]? = some o
                rw [List.getElem?_drop]
                have : tailOf P ops.toList + (i - m) = i := by show m + (i - m) = i; omega
                rw [this]; exact hoi)
              have e : tailOf P ops.toList + (i - m) = i := by show m + (i - m) = i; omega
              rw [e] at this
              exact this
            have hn : c.n = ops.size := rfl
            have k : c.Ok := by
              refine ⟨fun q hq => hop q (by have : q < n := hq; omega), hback, rfl, rfl, hle, fun i j hij hj hi hje => chained_spec hchain hij hj hi hje, honce, hself, ?_, ?_, ?_, ?_, ?_, ?_, ?_, ?_, ?_, rfl, rel⟩
              · intro i o d hoi hd
                have h1 : fitsOps N ops.toList = true := hfit
                unfold fitsOps at h1
                rw [List.all_eq_true] at h1
                have := h1 o (List.mem_of_getElem? hoi)
                rw [hd] at this
                simpa [Nat.blt_eq] using this
              · rw [hcfm 0 (Nat.zero_le _), hst0]
              · intro i o hoi
                by_cases hi : i < m
                · rw [hcfm i (by omega), hcfm (i + 1) (by omega), hres1 i hi]
                  exact (hstep1 i o hi hoi).fr_eq
                · rw [hcft i (by omega), hcft (i + 1) (by omega), hres2 i (by omega)]
                  exact (hstep2 i o (by omega) hoi).1
              · exact fun i hi => (hcfm i hi).symm
              · show (st 0).h = _
                rw [hst0, hn, hsz]
              · show (st 0).hs = _
                rw [hst0]
              · show (st 0).pend = _
                rw [hst0]
              · intro i o hi hoi
                rw [hres1 i hi, hblk1 i hi]
                exact hstep1 i o hi hoi
              · intro rd hrd
                have h1 : rd ∈ s.rds := by rw [← hstm]; exact hrd
                have := List.all_eq_true.1 hag rd h1
                show agree P E.G ((st m).hs ++ [(st m).h]) rd = true
                rw [hstm]; exact this
            have t : Cx.Tl c (publishAll c.p.base s.pend s.h) h' tgt := by
              refine ⟨fun i o hi hoi => ?_, fun i b x hi hin ht => ?_, fun q hq => hc6 q fun kk x hk => hq _ x (Nat.le_add_right _ _) (by rw [hdl] at hk; show m + kk < ops.size; have : kk < ops.size - m := hk; omega), fun i j b x x' hi hin hj hjn ht ht' => ?_, hc3, fun i o hi hoi j hj => tail_ahead P hi hoi hj, ?_⟩
              · rw [hcft i hi, hres2 i hi]
                exact (hstep2 i o hi hoi).2
              · have hi' : m ≤ i := hi
                have hin' : i < ops.size := hin
                have := hc5 (i - m) b x (by rw [hdl]; show i - m < ops.size - m; omega) (by
                  have e : tailOf P ops.toList + (i - m) = i := by show m + (i - m) = i; omega
                  rw [e]; exact ht)
                exact this.2
              · have hi' : m ≤ i := hi
                have hin' : i < ops.size := hin
                have hj' : m ≤ j := hj
                have hjn' : j < ops.size := hjn
                have e1 : tailOf P ops.toList + (i - m) = i := by show m + (i - m) = i; omega
                have e2 : tailOf P ops.toList + (j - m) = j := by show m + (j - m) = j; omega
                have := hc7 (i - m) (j - m) b x x' (by rw [hdl]; show i - m < ops.size - m; omega) (by rw [hdl]; show j - m < ops.size - m; omega) (by rw [e1]; exact ht) (by rw [e2]; exact ht')
                omega
              · show _ = publishAll c.p.base (st m).pend (st m).h
                rw [hstm]
            have hcfn : c.cf c.n = fr' := by
              rw [hn, hcft _ hle, ← hc2, hdl]
              congr 1
              show ops.size = m + (ops.size - m)
              have : m ≤ ops.size := hle
              omega
            refine wp_region_any hmix ?_
            have hw' : Rel E β h { w with drawn := w.drawn + 1 } := ⟨rel.blk, rel.inj, rel.fresh, rel.glob, rel.size⟩
            have hfr' : Frm β h w β h { w with drawn := w.drawn + 1 } := ⟨Nat.le_refl _, fun _ _ => rfl, Nat.le_refl _, fun _ _ _ => rfl, fun b x L h1 h2 _ => ⟨b, x, L, h1, h2, rfl⟩, fun _ _ h => h, rfl, rfl, rfl⟩
            exact Cx.all_ok k t hw' hfr' hf fun β' a' w' q1 q2 q3 => ⟨rfl, β', by rw [← hcfn]; exact q1, q2, q3⟩
          · cases he
      · cases he
end Go.Ae
/- The evaluator's answer is what every run answers. -/
set_option linter.unusedVariables false
set_option linter.unusedSimpArgs false
set_option maxHeartbeats 1000000
namespace Go.Ae
open Go

section
variable {P : Program} {E : Env} {H : Hook}

structure HookOk (P : Program) (E : Env) (H : Hook) : Prop where
  call : ∀ f args h v h', H.call f args h = some (some (v, h')) → (∃ fn, P.funcs[f]? = some fn ∧ fn.body.isSome = true) ∧ CallOk P E f args h v h'
  bin : ∀ op x y v, H.bin op x y = some v → ∀ (β : Beta) (a : Act) (o : Oper) (t : TypeId) (p q : Operand) (z : TypeId), o.op = .binOp op t p q z → VR E.ρ β x (a.eval p) → VR E.ρ β y (a.eval q) →
    ∃ cv, (∀ w, (execOp a.eval o).run P w = .ok (.value cv) w) ∧ VR E.ρ β v cv
theorem HookOk.none : HookOk P E Hook.none := ⟨fun _ _ _ _ _ h => (by cases h), fun _ _ _ _ h => (by cases h)⟩

theorem run_callFunc_enter {f : FuncId} {fn : Func} (hf : P.funcs[f]? = some fn) (hb : fn.body.isSome = true) (hn : (fn.name == "runtime.NumGoroutine") = false) (args : Array Value) (w : World) :
    (callFunc f args).run P w = .ok (.enter f args) w := by
  have h1 : fn.name ≠ "runtime.NumGoroutine" := by simpa using hn
  have h2 : fn.body ≠ none := fun e => by rw [e] at hb; cases hb
  simp [callFunc, hf, h1, h2]

theorem fits_enter (hfit : fitsP P = true) {f : FuncId} {fn : Func} (hf : P.funcs[f]? = some fn) (hb : fn.body.isSome = true) : (fn.name == "runtime.NumGoroutine") = false := by
  have := fitsP_fn hfit hf
  unfold fitsFn at this
  cases hc : fn.body with
  | none => rw [hc] at hb; cases hb
  | some c => rw [hc] at this; simp only [Bool.and_eq_true, Bool.not_eq_true'] at this; exact this.2

theorem pure_step {β : Beta} {h : Hp} {w : World} {s : Sem Next} {v : AVal} {cv : Value} (r : Rel E β h w) (hs : s.run P w = .ok (.value cv) w) (hv : VR E.ρ β v cv) : StepOk P E β h w s v h :=
  .inl ⟨_, cv, β, w, hs, .inl rfl, hv, r, .refl _ _ _⟩

theorem op_sound (hhook : HookOk P E H) {n : Nat} (hcall : CallSound P E H n) : OpSound P E H (n + 1) := by
  intro β fr h o v h' w a N he r hf
  unfold evalOp at he
  split at he
  · cases hp : pureOp P fr o with
    | none =>
      rw [hp] at he
      simp only at he
      split at he
      · rename_i op t x y z ho
        split at he
        · rename_i p q hx hy
          split at he
          · rename_i u hu
            simp only [Option.some.injEq, Prod.mk.injEq] at he
            obtain ⟨rfl, rfl⟩ := he
            obtain ⟨cv, hr, hv⟩ := hhook.bin _ _ _ _ hu β a o _ _ _ _ ho (opdA_sound hf hx) (opdA_sound hf hy)
            exact pure_step r (hr w) hv
          · cases he
        · cases he
      · cases he
    | some x =>
      rw [hp] at he; simp only [Option.some.injEq, Prod.mk.injEq] at he
      obtain ⟨rfl, rfl⟩ := he
      obtain ⟨cv, hr, hv⟩ := pure_sound hp hf
      exact pure_step r (hr w) hv
  · cases hp : readOp P E.G fr h o with
    | none => rw [hp] at he; cases he
    | some x =>
      rw [hp] at he; simp only [Option.map_some, Option.some.injEq, Prod.mk.injEq] at he
      obtain ⟨rfl, rfl⟩ := he
      obtain ⟨cv, hr, hv⟩ := read_sound r hp hf
      exact pure_step r hr hv
  · cases hp : allocOp P fr h.next o with
    | none => rw [hp] at he; cases he
    | some x =>
      obtain ⟨x, b⟩ := x
      rw [hp] at he; simp only [Option.map_some, Option.some.injEq, Prod.mk.injEq] at he
      obtain ⟨rfl, rfl⟩ := he
      obtain ⟨cv, w', ob, sz, hr, h1, h2, h3, h4, hv, hb⟩ := alloc_sound (w := w) (r.fresh _ (Nat.le_refl _)) hf hp
      obtain ⟨h5, h6⟩ := new_rel r h1 h2 h3 h4 hb
      exact .inl ⟨_, cv, _, w', hr, .inl rfl, hv, h5, h6⟩
  · split at he
    · rename_i c ho
      split at he
      · exact .inl (eff_sound r he hf)
      · split at he
        · rename_i f args ht
          obtain ⟨cargs, hargs, hrun⟩ := target_sound ho ht hf
          rcases hcall he r hargs with ⟨nx, cv, β', w', hr, rest⟩ | ⟨f', cargs', hr, hc⟩
          · exact .inl ⟨nx, cv, β', w', by rw [hrun, hr], rest⟩
          · exact .inr ⟨f', cargs', by rw [hrun, hr], hc⟩
        · cases he
    · exact .inl (eff_sound r he hf)

/-- A region in the text's order. -/
theorem ops_sound (ops : Array Oper) {N : Nat} : ∀ (n : Nat) (hop : ∀ m < n, OpSound P E H m) (l : List Oper) (idx : List Nat), idx.map (fun i => ops[i]?) = l.map some → fitsOps N l = true →
    ∀ {fr h fr' h' β w a} {Q : Exit → Act → World → Prop}, evalOps P E.G H n ops.toList l fr h = some (fr', h') → Rel E β h w → FrR E β N fr a →
      (∀ a' β' w', FrR E β' N fr' a' → Rel E β' h' w' → Frm β h w β' h' w' → Q .normal a' w') → wpOps P ops Q idx a w
  | 0, _, l, idx, _, _, _, _, _, _, _, _, _, _, he, _, _, _ => by simp [evalOps] at he
  | n + 1, hop, [], idx, hi, _, fr, h, fr', h', β, w, a, Q, he, r, hf, hQ => by
    cases idx with
    | cons => simp at hi
    | nil =>
      simp only [evalOps, Option.some.injEq, Prod.mk.injEq] at he
      obtain ⟨rfl, rfl⟩ := he
      exact hQ a β w hf r (.refl _ _ _)
  | n + 1, hop, o :: l, idx, hi, hfit, fr, h, fr', h', β, w, a, Q, he, r, hf, hQ => by
    cases idx with
    | nil => simp at hi
    | cons i idx =>
      simp only [List.map_cons, List.cons.injEq] at hi
      obtain ⟨hi1, hi2⟩ := hi
      simp only [fitsOps, List.all_cons, Bool.and_eq_true] at hfit
      have hd : ∀ d, o.dst = some d → d < N := fun d hd => by
        have := hfit.1; rw [hd] at this; simpa [Nat.blt_eq] using this
      simp only [wpOps, hi1, wanted_eq hf ops o]
      unfold evalOps at he
      cases hw : wantedA ops.toList fr o with
      | false =>
        rw [hw, cond_false] at he
        simp only [Bool.false_eq_true, if_false]
        exact ops_sound ops n (fun m hm => hop m (by omega)) l idx hi2 hfit.2 he r (hf.put undef_VR o.dst hd) hQ
      | true =>
        rw [hw, cond_true] at he
        simp only [if_true]
        split at he
        · rename_i v h1 hv
          refine .inl (wp_of_step (hop n (by omega) hv r hf) fun cv β' w' hcv hrel hfrm => ?_)
          exact ops_sound ops n (fun m hm => hop m (by omega)) l idx hi2 hfit.2 he hrel ((hf.mono (hfrm.Ext r)).put hcv o.dst hd) fun a' β'' w'' h1 h2 h3 => hQ _ _ _ h1 h2 (hfrm.trans h3)
        · cases he

theorem exists_min {p : Nat → Prop} (h : ∃ n, p n) : ∃ n, p n ∧ ∀ m, p m → n ≤ m := by
  obtain ⟨n, hn⟩ := h
  induction n using Nat.strongRecOn with
  | _ n ih =>
    by_cases hm : ∃ m, m < n ∧ p m
    · obtain ⟨m, hlt, hp⟩ := hm; exact ih m hlt hp
    · exact ⟨n, hn, fun m hp => Nat.le_of_not_lt fun hlt => hm ⟨m, hlt, hp⟩⟩

theorem Post.weaken {β β' : Beta} {h h' : Hp} {w w' : World} {N : Nat} {r : Res} (f : Frm β h w β' h' w') : ∀ e a u, Post E β' h' w' N r e a u → Post E β h w N r e a u :=
  fun e a u ⟨h1, β'', h2, h3, h4⟩ => ⟨h1, β'', h2, h3, f.trans h4⟩

def LoopI (P : Program) (E : Env) (H : Hook) (b : Code) (r : Res) (N : Nat) (β : Beta) (h : Hp) (w : World) (K : Nat) (n : Nat) (a : Act) (u : World) : Prop :=
  n ≤ K ∧ ∃ fr h1 β1, evalCode P E.G H n (.loop b) fr h1 = some r ∧ FrR E β1 N fr a ∧ Rel E β1 h1 u ∧ Frm β h w β1 h1 u

open Classical in
noncomputable def loopM (P : Program) (E : Env) (H : Hook) (b : Code) (r : Res) (N : Nat) (β : Beta) (h : Hp) (w : World) (K : Nat) (a : Act) (u : World) : Nat :=
  if hx : ∃ n, LoopI P E H b r N β h w K n a u then Classical.choose (exists_min hx) else 0

theorem loopM_spec {b : Code} {r : Res} {N : Nat} {β : Beta} {h : Hp} {w : World} {K : Nat} {a : Act} {u : World} (hx : ∃ n, LoopI P E H b r N β h w K n a u) :
    LoopI P E H b r N β h w K (loopM P E H b r N β h w K a u) a u ∧ ∀ m, LoopI P E H b r N β h w K m a u → loopM P E H b r N β h w K a u ≤ m := by
  unfold loopM
  rw [dif_pos hx]
  exact Classical.choose_spec (exists_min hx)

theorem code_sound (hmix : P.follows .mixedOrders = true) {n : Nat} (hop : ∀ m ≤ n, OpSound P E H m) (hcode : ∀ m ≤ n, CodeSound P E H m) : CodeSound P E H (n + 1) := by
  intro c fr h r β w a N he hfit rel hf
  have here : ∀ {ex fr' h'}, r = ⟨ex, fr', h'⟩ → fr' = fr → h' = h → Post E β h w N r ex.toExit a w := fun hr h1 h2 => by
    subst hr; subst h1; subst h2; exact ⟨rfl, β, hf, rel, .refl _ _ _⟩
  have hc : CodeSound P E H n := fun {c fr h r β w a N} => hcode n (Nat.le_refl n)
  cases c with
  | skip =>
    simp only [evalCode, Option.some.injEq] at he
    exact wp_skip (here he.symm rfl rfl)
  | label l =>
    simp only [evalCode, Option.some.injEq] at he
    exact wp_label (here he.symm rfl rfl)
  | exit id =>
    simp only [evalCode, Option.some.injEq] at he
    exact wp_exit (here he.symm rfl rfl)
  | ret =>
    simp only [evalCode, Option.some.injEq] at he
    exact wp_ret (here he.symm rfl rfl)
  | region id ops draw =>
    cases draw with
    | true => exact draw_sound (n := n + 1) (fun m hm => hop m (by omega)) hmix hfit he rel hf
    | false =>
      simp only [evalCode] at he
      split at he
      · rename_i fr' h' ho
        simp only [Option.some.injEq] at he
        subst he
        refine wp_region (ops_sound ops n (fun m hm => hop m (by omega)) ops.toList (List.range ops.size) ?_ hfit ho rel hf fun a' β' w' h1 h2 h3 => ⟨rfl, β', h1, h2, h3⟩)
        apply List.ext_getElem (by simp)
        intro i h1 h2
        simp [Array.getElem?_eq_getElem (show i < ops.size by simpa using h2)]
      · cases he
  | seq x y =>
    simp only [fitsC, Bool.and_eq_true] at hfit
    simp only [evalCode] at he
    split at he
    · rename_i fr1 h1 hx
      refine wp_seq (wp_mono (hc hx hfit.1 rel hf) ?_)
      rintro e a' w' ⟨rfl, β', hf', rel', hfrm⟩
      exact wp_mono (hc he hfit.2 rel' hf') (Post.weaken hfrm)
    · rename_i hne
      cases hx : evalCode P E.G H n x fr h with
      | none => rw [hx] at he; cases he
      | some rx =>
        rw [hx] at he; simp only [Option.some.injEq] at he; subst he
        refine wp_seq (wp_mono (hc hx hfit.1 rel hf) ?_)
        rintro e a' w' ⟨rfl, hrest⟩
        obtain ⟨ex, fr1, h1⟩ := rx
        cases ex with
        | normal => exact absurd hx (hne _ _)
        | exit id => exact ⟨rfl, hrest⟩
        | goto l => exact ⟨rfl, hrest⟩
        | ret => exact ⟨rfl, hrest⟩
  | cond c x y =>
    simp only [fitsC, Bool.and_eq_true] at hfit
    simp only [evalCode] at he
    split at he
    · rename_i hv
      have := opdA_sound hf hv
      exact wp_cond_true (by generalize a.eval c = cv at this; cases this; rfl) (hc he hfit.1 rel hf)
    · rename_i hv
      have := opdA_sound hf hv
      exact wp_cond_false (by generalize a.eval c = cv at this; cases this; rfl) (hc he hfit.2 rel hf)
    · cases he
  | block id b =>
    simp only [evalCode] at he
    split at he
    · rename_i id' fr1 h1 hx
      refine wp_block (wp_mono (hc hx hfit rel hf) ?_)
      rintro e a' w' ⟨rfl, hrest⟩
      show if id' = id then _ else _
      cases hid : Nat.beq id' id with
      | true =>
        rw [hid, cond_true] at he; simp only [Option.some.injEq] at he; subst he
        rw [if_pos (Nat.eq_of_beq_eq_true hid)]
        exact ⟨rfl, hrest⟩
      | false =>
        rw [hid, cond_false] at he; simp only [Option.some.injEq] at he; subst he
        rw [if_neg (fun e => by rw [e, Nat.beq_refl] at hid; cases hid)]
        exact ⟨rfl, hrest⟩
    · rename_i hne
      cases hx : evalCode P E.G H n b fr h with
      | none => rw [hx] at he; cases he
      | some rx =>
        rw [hx] at he; simp only [Option.some.injEq] at he; subst he
        refine wp_block (wp_mono (hc hx hfit rel hf) ?_)
        rintro e a' w' ⟨rfl, hrest⟩
        obtain ⟨ex, fr1, h1⟩ := rx
        cases ex with
        | normal => exact ⟨rfl, hrest⟩
        | exit id => exact absurd hx (hne _ _ _)
        | goto l => exact ⟨rfl, hrest⟩
        | ret => exact ⟨rfl, hrest⟩
  | scope b =>
    simp only [evalCode] at he
    split at he
    · cases he
    · rename_i hne
      cases hx : evalCode P E.G H n b fr h with
      | none => rw [hx] at he; cases he
      | some rx =>
        rw [hx] at he; simp only [Option.some.injEq] at he; subst he
        refine wp_scope_straight (wp_mono (hc hx hfit rel hf) ?_)
        rintro e a' w' ⟨rfl, hrest⟩
        obtain ⟨ex, fr1, h1⟩ := rx
        cases ex with
        | normal => exact ⟨rfl, hrest⟩
        | exit id => exact ⟨rfl, hrest⟩
        | goto l => exact absurd hx (hne _ _ _)
        | ret => exact ⟨rfl, hrest⟩
  | loop b =>
    have h0 : ∃ m, LoopI P E H b r N β h w (n + 1) m a w := ⟨n + 1, Nat.le_refl _, fr, h, β, he, hf, rel, .refl _ _ _⟩
    refine wp_loop (fun a' u => ∃ m, LoopI P E H b r N β h w (n + 1) m a' u) (loopM P E H b r N β h w (n + 1)) h0 fun a' u hI => ?_
    have spec := loopM_spec hI
    generalize loopM P E H b r N β h w (n + 1) a' u = m at spec ⊢
    obtain ⟨⟨hle, fr1, h1, β1, hev, hf1, rel1, hfrm1⟩, hmin⟩ := spec
    cases m with
    | zero => simp [evalCode] at hev
    | succ m =>
      simp only [evalCode] at hev
      have hcm : CodeSound P E H m := fun {c fr h r β w a N} => hcode m (by omega)
      split at hev
      · rename_i fr2 h2 hx
        refine wp_mono (hcm hx hfit rel1 hf1) ?_
        rintro e a'' u' ⟨rfl, β2, hf2, rel2, hfrm2⟩
        have hI2 : LoopI P E H b r N β h w (n + 1) m a'' u' := ⟨by omega, fr2, h2, β2, hev, hf2, rel2, hfrm1.trans hfrm2⟩
        exact ⟨⟨m, hI2⟩, Nat.lt_succ_of_le ((loopM_spec ⟨m, hI2⟩).2 m hI2)⟩
      · rename_i hne
        cases hx : evalCode P E.G H m b fr1 h1 with
        | none => rw [hx] at hev; cases hev
        | some rx =>
          rw [hx] at hev; simp only [Option.some.injEq] at hev; subst hev
          refine wp_mono (hcm hx hfit rel1 hf1) ?_
          rintro e a'' u' ⟨rfl, β2, hf2, rel2, hfrm2⟩
          obtain ⟨ex, fr2, h2⟩ := rx
          cases ex with
          | normal => exact absurd hx (hne _ _)
          | exit id => exact ⟨rfl, β2, hf2, rel2, hfrm1.trans hfrm2⟩
          | goto l => exact ⟨rfl, β2, hf2, rel2, hfrm1.trans hfrm2⟩
          | ret => exact ⟨rfl, β2, hf2, rel2, hfrm1.trans hfrm2⟩
  | rangeFunc => simp [evalCode] at he
  | goto => simp [evalCode] at he
  | refuse => simp [evalCode] at he

theorem initFr_get : ∀ (l : List AVal) (i : Nat) (t : T AVal) (j : Nat), (initFr l i t).get j = if i ≤ j ∧ j < i + l.length then l[j - i]? else t.get j
  | [], i, t, j => by
    rw [initFr, if_neg]; simp
  | v :: l, i, t, j => by
    rw [initFr, initFr_get l]
    simp only [List.length_cons, T.get_set]
    by_cases hj : i = j
    · subst hj
      rw [if_neg (by omega), if_pos rfl, if_pos (by omega)]; simp
    · rw [if_neg hj]
      by_cases h2 : i + 1 ≤ j ∧ j < i + 1 + l.length
      · rw [if_pos h2, if_pos (by omega)]
        have : j - i = (j - (i + 1)) + 1 := by omega
        rw [this]; simp
      · rw [if_neg h2, if_neg (by omega)]

theorem FrR.init {β : Beta} {args : List AVal} {cargs : List Value} (hr : VRs E.ρ β args cargs) (N : Nat) :
    FrR E β N (initFr args 0 .e) { tmps := cargs.toArray ++ Array.replicate (N - cargs.toArray.size) undef, defers := [] } := by
  refine ⟨by simp; omega, fun t => ?_, rfl⟩
  rw [initFr_get]
  simp only [Nat.zero_le, true_and, Nat.zero_add, Nat.sub_zero, Array.getD_eq_getD_getElem?]
  by_cases ht : t < args.length
  · rw [if_pos ht]
    obtain ⟨v, hv, hvr⟩ := hr.get (List.getElem?_eq_getElem ht)
    rw [List.getElem?_eq_getElem ht, Array.getElem?_append_left (by simpa [← hr.length] using ht)]
    simp only [List.getElem?_toArray, hv, Option.getD_some]
    exact hvr
  · rw [if_neg ht]
    have hl := hr.length
    rw [Array.getElem?_append_right (by simp; omega)]
    rw [Array.getElem?_replicate]
    simp only [T.get_e, Option.getD_none]
    split <;> exact undef_VR

def resOne (tmps : Array Value) (x : ResultVar) : Sem Value := match x with
  | .tmp t => pure (tmps.getD t undef)
  | .cell a t => do loadVar t (← asAddr (tmps.getD a undef))
theorem results_eq (fn : Func) (tmps : Array Value) : results fn tmps = (do let vs ← fn.results.mapM (resOne tmps); pure (if h : vs.size = 1 then vs[0] else .tuple vs)) := by
  unfold results
  congr 2

theorem results_sound {β : Beta} {h : Hp} {w : World} {fr : T AVal} {a : Act} {N : Nat} (rel : Rel E β h w) (hf : FrR E β N fr a) : ∀ {l : List ResultVar} {vs : List AVal}, resultsA P h fr l = some vs →
    ∃ cvs, VRs E.ρ β vs cvs ∧ (l.mapM (resOne a.tmps)).run P w = .ok cvs w
  | [], vs, hr => by
    simp only [resultsA, Option.some.injEq] at hr; subst hr
    exact ⟨[], .nil, by simp⟩
  | x :: l, vs, hr => by
    simp only [resultsA, Option.bind_eq_bind, Option.pure_def] at hr
    cases h1 : resultA P h fr x with
    | none => rw [h1] at hr; cases hr
    | some y =>
      cases h2 : resultsA P h fr l with
      | none => rw [h1, h2] at hr; cases hr
      | some ys =>
        rw [h1, h2] at hr; simp only [Option.bind_some, Option.some.injEq] at hr; subst hr
        obtain ⟨cvs, hvs, hrun⟩ := results_sound rel hf h2
        cases x with
        | tmp t =>
          simp only [resultA, Option.some.injEq] at h1; subst h1
          have h3 : (resOne a.tmps (.tmp t)).run P w = .ok (a.tmps.getD t undef) w := rfl
          exact ⟨_ :: cvs, .cons (hf.val t) hvs, by rw [List.mapM_cons, Sem.run_bind, h3]; simp only [Result.andThen, Sem.run_bind, hrun]; rfl⟩
        | cell p t =>
          simp only [resultA] at h1
          have hp := hf.val p
          obtain ⟨cv, hl, hv⟩ := load_sound rel h1 hp
          have h3 : (resOne a.tmps (.cell p t)).run P w = .ok cv w := by
            revert hl
            show _ → (do loadVar t (← asAddr (a.tmps.getD p undef)) : Sem Value).run P w = _
            cases hx : (fr.get p).getD .undef with
            | ptr b off =>
              rw [hx] at hp
              generalize a.tmps.getD p undef = cp at hp ⊢
              cases hp
              exact fun hl => hl
            | _ => rw [hx] at h1; simp [loadA] at h1
          exact ⟨cv :: cvs, .cons hv hvs, by rw [List.mapM_cons, Sem.run_bind, h3]; simp only [Result.andThen, Sem.run_bind, hrun]; rfl⟩

theorem call_sound (hhook : HookOk P E H) (hfit : fitsP P = true) {n : Nat} (hcode : CodeSound P E H n) : CallSound P E H (n + 1) := by
  intro f args h v h' β w cargs he rel hr
  unfold evalCall at he
  split at he
  · rename_i res hh
    subst he
    obtain ⟨⟨fn, hf, hb⟩, hok⟩ := hhook.call f args h v h' hh
    exact .inr ⟨f, cargs.toArray, run_callFunc_enter hf hb (fits_enter hfit hf hb) _ _, hok β w cargs rel hr⟩
  · split at he
    · rename_i fn hf
      split at he
      · rename_i hb
        split at he
        · rename_i k hk
          exact .inl (ext_sound rel hf hb hk he hr)
        · cases he
      · rename_i c hb
        refine .inr ⟨f, cargs.toArray, run_callFunc_enter hf (by rw [hb]; rfl) (fits_enter hfit hf (by rw [hb]; rfl)) _ _, ?_⟩
        have hfc : fitsC fn.ntmps c = true := by
          have := fitsP_fn hfit hf
          unfold fitsFn at this
          rw [hb] at this; simp only [Bool.and_eq_true] at this; exact this.1
        refine calls_of_wp hf hb ?_
        have fin : ∀ {ex fr' h1}, evalCode P E.G H n c (initFr args 0 .e) h = some ⟨ex, fr', h1⟩ → (ex = .normal ∨ ex = .ret) →
            (match resultsA P h1 fr' fn.results.toList with
              | some [v] => some (v, h1)
              | some vs => some (.tuple vs, h1)
              | none => none) = some (v, h') →
            c.wp P (bodyPost P fn (Ret E β h w v h')) { tmps := cargs.toArray ++ Array.replicate (fn.ntmps - cargs.toArray.size) undef, defers := [] } w := by
          intro ex fr' h1 hev hex hres
          refine wp_mono (hcode hev hfc rel (FrR.init hr fn.ntmps)) ?_
          rintro e a' w' ⟨rfl, β', hf', rel', hfrm⟩
          have key : a'.defers = [] ∧ ∃ u, (results fn a'.tmps).run P w' = .ok u w' ∧ Ret E β h w v h' (.returned u) w' := by
            refine ⟨hf'.defers, ?_⟩
            cases hra : resultsA P h1 fr' fn.results.toList with
            | none => rw [hra] at hres; cases hres
            | some vs =>
              rw [hra] at hres
              obtain ⟨cvs, hvs, hrun⟩ := results_sound rel' hf' hra
              have hres' : (results fn a'.tmps).run P w' = .ok (if hs : cvs.toArray.size = 1 then cvs.toArray[0] else .tuple cvs.toArray) w' := by
                rw [results_eq, Array.mapM_eq_mapM_toList, Sem.run_bind, Sem.run_map, hrun]
                rfl
              refine ⟨_, hres', ?_⟩
              rcases vs with _ | ⟨x, _ | ⟨y, ys⟩⟩
              · simp only [Option.some.injEq, Prod.mk.injEq] at hres
                obtain ⟨rfl, rfl⟩ := hres
                cases hvs
                exact ⟨_, β', rfl, .tuple .nil, rel', hfrm⟩
              · simp only [Option.some.injEq, Prod.mk.injEq] at hres
                obtain ⟨rfl, rfl⟩ := hres
                cases hvs with | cons hx hs => cases hs; exact ⟨_, β', rfl, hx, rel', hfrm⟩
              · simp only [Option.some.injEq, Prod.mk.injEq] at hres
                obtain ⟨rfl, rfl⟩ := hres
                cases hvs with | cons hx hs => cases hs with | cons hy hz => exact ⟨_, β', by simp, .tuple (.cons hx (.cons hy hz)), rel', hfrm⟩
          rcases hex with rfl | rfl <;> exact key
        split at he
        · rename_i fr' h1 hev; exact fin hev (.inl rfl) he
        · rename_i fr' h1 hev; exact fin hev (.inr rfl) he
        · cases he
    · cases he

/-- The evaluator is sound. -/
theorem sound (hmix : P.follows .mixedOrders = true) (hfit : fitsP P = true) (hhook : HookOk P E H) : ∀ n, ∀ m ≤ n, OpSound P E H m ∧ CallSound P E H m ∧ CodeSound P E H m
  | 0, m, hm => by
    have : m = 0 := by omega
    subst this
    exact ⟨fun he => by simp [evalOp] at he, fun he => by simp [evalCall] at he, fun he => by simp [evalCode] at he⟩
  | n + 1, m, hm => by
    have ih := sound hmix hfit hhook n
    by_cases hlt : m ≤ n
    · exact ih m hlt
    · have : m = n + 1 := by omega
      subst this
      exact ⟨op_sound hhook (ih n (Nat.le_refl _)).2.1, call_sound hhook hfit (ih n (Nat.le_refl _)).2.2, code_sound hmix (fun m hm => (ih m hm).1) (fun m hm => (ih m hm).2.2)⟩

theorem calls_sound (hmix : P.follows .mixedOrders = true) (hfit : fitsP P = true) (hhook : HookOk P E H) {n : Nat} {f : FuncId} {fn : Func} (hf : P.funcs[f]? = some fn) (hb : fn.body.isSome = true)
    {args : List AVal} {h : Hp} {v : AVal} {h' : Hp} (he : evalCall P E.G H n f args h = some (v, h')) : CallOk P E f args h v h' := by
  intro β w cargs rel hr
  rcases (sound hmix hfit hhook n n (Nat.le_refl _)).2.1 he rel hr with ⟨nx, cv, β', w', hrun, hn, _⟩ | ⟨f', cargs', hrun, hc⟩
  · rw [run_callFunc_enter hf hb (fits_enter hfit hf hb)] at hrun
    rcases hn with rfl | ⟨rfl, _⟩ <;> cases hrun
  · rw [run_callFunc_enter hf hb (fits_enter hfit hf hb)] at hrun
    cases hrun
    exact hc
end
end Go.Ae
