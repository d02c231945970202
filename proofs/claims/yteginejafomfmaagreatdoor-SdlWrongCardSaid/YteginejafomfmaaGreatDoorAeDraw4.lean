/- A region in any order: all of it. -/
import Derived.Test.YteginejafomfmaaGreatDoorAeDraw3
set_option linter.unusedVariables false
set_option linter.unusedSimpArgs false
set_option maxHeartbeats 1000000
namespace Go.Ae
open Go

theorem Frm.congr {β β' : Beta} {h h1 h2 : Hp} {w w' : World} (f : Frm β h w β' h1 w') (hn : h2.next = h1.next) (hg : ∀ b, h2.get b = h1.get b) : Frm β h w β' h2 w' where
  next := by rw [hn]; exact f.next
  ext := f.ext
  size := f.size
  same := f.same
  range := fun b x L hb => f.range b x L (by rw [← hg]; exact hb)
  dom := fun b hb hn => by rw [hg]; exact f.dom b hb hn
  os := f.os
  tape := f.tape
  output := f.output
theorem Rel.congr {E : Env} {β : Beta} {h1 h2 : Hp} {w : World} (r : Rel E β h1 w) (hn : h2.next = h1.next) (hg : ∀ b, h2.get b = h1.get b) : Rel E β h2 w :=
  r.sub (fun b x hx => by rw [← hg]; exact hx) hn
theorem FrR.congr {E : Env} {β : Beta} {n : Nat} {f g : T AVal} {a : Act} (h : FrR E β n f a) (hg : ∀ t, g.get t = f.get t) : FrR E β n g a :=
  ⟨h.size, fun t => by rw [hg]; exact h.val t, h.defers⟩

namespace Cx
variable {c : Cx} {Q : Exit → Act → World → Prop}

/-- All rounds. -/
theorem any_ind (k : c.Ok) {J : Array Bool → Act → World → Prop} (hJ : ∀ listed a w, J listed a w → Inv1 c listed)
    (hstep : ∀ listed a w i o, J listed a w → Next c listed i o → wpOp c.P c.ops Q i (J (listed.setIfInBounds i true)) a w)
    (hend : ∀ listed a w, J listed a w → (∀ j, j < c.n → isL listed j) → Q .normal a w) :
    ∀ (fuel : Nat) (listed : Array Bool) (a : Act) (w : World), fuel + cntB (fun j => listed.getD j false) c.n = c.n → J listed a w → wpAny c.P .any c.ops Q fuel listed a w := by
  have hready : ∀ (listed : Array Bool) (a : Act) (w : World), J listed a w → Region.ready .any c.ops listed = [] → ∀ j, j < c.n → isL listed j := by
    intro listed a w hJ' hr
    have v := hJ listed a w hJ'
    rcases Classical.em (∃ j, j < c.n ∧ ¬ isL listed j) with hx | hx
    · obtain ⟨j, ⟨hj, hno⟩, hmin⟩ : ∃ j, (j < c.n ∧ ¬ isL listed j) ∧ ∀ q, (q < c.n ∧ ¬ isL listed q) → j ≤ q := by
        obtain ⟨n, hn⟩ := hx
        induction n using Nat.strongRecOn with
        | _ n ih =>
          by_cases hm : ∃ q, q < n ∧ (q < c.n ∧ ¬ isL listed q)
          · obtain ⟨q, hlt, hp⟩ := hm; exact ih q hlt hp
          · exact ⟨n, hn, fun q hp => Nat.le_of_not_lt fun hlt => hm ⟨q, hlt, hp⟩⟩
      obtain ⟨o, ho⟩ := k.op hj
      have : j ∈ Region.ready .any c.ops listed := by
        rw [mem_ready]
        refine ⟨?_, o, by have := ho; rw [l, Array.getElem?_toList] at this; exact this, fun e he hb => ?_⟩
        · have hlt : j < listed.size := by rw [v.size]; exact hj
          unfold isL at hno
          simp [Array.getD, hlt] at hno ⊢
          exact hno
        · have hlt := k.back j o ho e he hb
          rcases Classical.em (isL listed e.on) with h | h
          · exact h
          · have := hmin e.on ⟨by omega, h⟩; omega
      rw [hr] at this; cases this
    · intro j hj
      rcases Classical.em (isL listed j) with h | h
      · exact h
      · exact absurd ⟨j, hj, h⟩ hx
  intro fuel
  induction fuel with
  | zero =>
    intro listed a w hc hJ'
    have hall : ∀ j, j < c.n → isL listed j := cntB_full (f := fun j => listed.getD j false) (by omega)
    refine ⟨?_, hend listed a w hJ' hall⟩
    cases hr : Region.ready .any c.ops listed with
    | nil => rfl
    | cons i rest =>
      obtain ⟨o, x⟩ := next_of_ready k (hJ _ _ _ hJ').size (i := i) (by rw [hr]; exact List.mem_cons_self ..)
      exact absurd (hall i (k.lt x.op)) x.no
  | succ fuel ih =>
    intro listed a w hc hJ'
    refine ⟨fun hr => hend listed a w hJ' (hready listed a w hJ' hr), fun i hi => ?_⟩
    obtain ⟨o, x⟩ := next_of_ready k (hJ _ _ _ hJ').size hi
    refine wpOp_mono (fun a' w' h => ih _ a' w' ?_ h) (hstep listed a w i o hJ' x)
    have hn := k.lt x.op
    have hno : listed.getD i false = false := by
      cases h : listed.getD i false with
      | false => rfl
      | true => exact absurd h x.no
    have := cntB_add (f := fun j => listed.getD j false) (g := fun j => (listed.setIfInBounds i true).getD j false) (i := i) hno
      (getD_set_same (by rw [(hJ _ _ _ hJ').size]; exact hn)) (fun q hq => getD_set _ (Ne.symm hq)) (n := c.n)
    rw [if_pos hn] at this
    rw [this]; omega

/-- The tail, laid out. -/
structure Tl (c : Cx) (hT hF : Hp) (tgt : Nat → Option (Nat × Blk)) : Prop where
  step : ∀ (i : Nat) (o : Oper), c.m ≤ i → c.l[i]? = some o → StepT c.P c.l hT o (c.cf i) (c.res i) (tgt i)
  hit : ∀ i b x, c.m ≤ i → i < c.n → tgt i = some (b, x) → hF.get b = some x
  miss : ∀ q, (∀ i x, c.m ≤ i → i < c.n → tgt i ≠ some (q, x)) → hF.get q = hT.get q
  one : ∀ i j b x x', c.m ≤ i → i < c.n → c.m ≤ j → j < c.n → tgt i = some (b, x) → tgt j = some (b, x') → i = j
  next : hF.next = hT.next
  ahead : ∀ (i : Nat) (o : Oper), c.m ≤ i → c.l[i]? = some o → ∀ j, j < c.m → (c.pre i).testBit j = true
  pub : hT = publishAll c.p.base (c.st c.m).pend (c.st c.m).h

structure Inv2 (c : Cx) (hT : Hp) (tgt : Nat → Option (Nat × Blk)) (listed : Array Bool) (a : Act) (w : World) : Prop where
  v : Inv1 c listed
  head : ∀ j, j < c.m → isL listed j
  ex : ∃ fr β g, FrR c.E β c.N fr a ∧ c.FrSpec (isL listed) fr ∧ Rel c.E β g w ∧ Frm c.β0 c.h0 c.w0 β g w ∧ g.next = hT.next ∧
    (∀ i b x, c.m ≤ i → i < c.n → isL listed i → tgt i = some (b, x) → g.get b = some x) ∧
    (∀ q, (∀ i x, c.m ≤ i → i < c.n → isL listed i → tgt i ≠ some (q, x)) → g.get q = hT.get q)

theorem conv (k : c.Ok) {hT hF : Hp} {tgt : Nat → Option (Nat × Blk)} (t : Tl c hT hF tgt) {listed : Array Bool} {a : Act} {w : World} (I : Inv c listed a w) (hall : ∀ j, j < c.m → isL listed j) : Inv2 c hT tgt listed a w := by
  obtain ⟨v, fr, β, hh, hS, hf, hfs, hr, hfrm, hsp, hfresh⟩ := I
  have hiff : ∀ j, isL listed j ↔ j < c.m := fun j => ⟨v.head j, hall j⟩
  have heN : c.eN listed = cntB (fun j => c.em.testBit j) c.m := by
    refine cntB_below (fun q hq => ?_) (fun q hq => ?_) k.mle
    · have := hall q hq
      unfold isL at this
      rw [this]; rfl
    · cases hl : listed.getD q false with
      | false => rfl
      | true => have := v.head q hl; omega
  have hSe : (c.st c.m).h = hS := by
    have := hsp.at_
    rw [heN, k.heap_at (Nat.le_refl _)] at this
    exact Option.some.inj this
  have hpub := publishAll_get (base := c.p.base) (l := (c.st c.m).pend) (h := hS) (f := c.blk) fun j b hj => ((k.pend_at c.m (Nat.le_refl _) j b).1 hj).2.1
  have hTe : hT = publishAll c.p.base (c.st c.m).pend hS := by rw [t.pub, hSe]
  have hg : ∀ b, hT.get b = hh.get b := fun b => by
    rw [hTe, hpub.2, hsp.get]
    by_cases hc : c.p.base ≤ b ∧ ∃ z, (b - c.p.base, z) ∈ (c.st c.m).pend
    · obtain ⟨h1, z, hz⟩ := hc
      have hz' := (k.pend_at c.m (Nat.le_refl _) _ z).1 hz
      rw [if_pos ⟨h1, z, hz⟩, if_pos ⟨h1, by have := k.mle; omega⟩, pendF_of (hall _ hz'.1) fun q hq => hz'.2.2 q ((hiff q).1 hq)]
    · rw [if_neg hc]
      by_cases hc2 : c.p.base ≤ b ∧ b < c.p.base + c.n
      · rw [if_pos hc2]
        cases hp : pendF c listed (b - c.p.base) with
        | none => rfl
        | some y =>
          obtain ⟨h1, h2, h3⟩ := pendF_some hp
          exact absurd ⟨hc2.1, y, (k.pend_at c.m (Nat.le_refl _) _ y).2 ⟨(hiff _).1 h1, h3, fun q hq => h2 q (hall q hq)⟩⟩ hc
      · rw [if_neg hc2]
  have hn : hT.next = hh.next := by rw [hTe, hpub.1, hsp.next]
  exact ⟨v.toInv1, hall, fr, β, hT, hf, hfs, hr.congr hn hg, hfrm.congr hn hg, rfl, fun i b x h1 _ h3 => by have := v.head i h3; omega, fun _ _ => rfl⟩

theorem step2 (k : c.Ok) {hT hF : Hp} {tgt : Nat → Option (Nat × Blk)} (t : Tl c hT hF tgt) {listed : Array Bool} {a : Act} {w : World} (I : Inv2 c hT tgt listed a w) {i : Nat} {o : Oper} (x : Next c listed i o) :
    wpOp c.P c.ops Q i (Inv2 c hT tgt (listed.setIfInBounds i true)) a w := by
  obtain ⟨v, hall, fr, β, g, hf, hfs, hr, hfrm, hgn, hhit, hmiss⟩ := I
  have hn : i < c.n := k.lt x.op
  have hlt : i < listed.size := by rw [v.size]; exact hn
  have hL : ∀ j, isL (listed.setIfInBounds i true) j ↔ isL listed j ∨ j = i := fun j => isL_set hlt
  have hi : c.m ≤ i := Nat.le_of_not_lt fun h => x.no (hall i h)
  have v' := x.advance1 k v
  have hall' : ∀ j, j < c.m → isL (listed.setIfInBounds i true) j := fun j hj => (hL j).2 (.inl (hall j hj))
  have hfs' := hfs.put k x.op x.no hL
  have hop : c.ops[i]? = some o := by have := x.op; rw [l, Array.getElem?_toList] at this; exact this
  have hwanted : Region.wanted o (yielded c.ops a.tmps) = wantedA c.l (c.cf i) o := (wanted_eq hf c.ops o).trans (x.wanted_eq k v hfs)
  have hopd := x.opd_eq k v hfs
  have hst := t.step i o hi x.op
  have keep : tgt i = none → ∀ cv, VR c.E.ρ β (c.res i) cv → Inv2 c hT tgt (listed.setIfInBounds i true) (a.put o.dst cv) w := fun hno cv hcv => by
    refine ⟨v', hall', _, β, g, hf.put hcv o.dst (k.fits i o · x.op), hfs', hr, hfrm, hgn, fun j b y h1 h2 h3 h4 => ?_, fun q hq => hmiss q fun j y h1 h2 h3 => hq j y h1 h2 ((hL j).2 (.inl h3))⟩
    rcases (hL j).1 h3 with h3 | rfl
    · exact hhit j b y h1 h2 h3 h4
    · rw [hno] at h4; cases h4
  unfold wpOp
  rw [hop]
  simp only
  rw [hwanted]
  generalize hv0 : c.res i = v0 at hst
  generalize htg : tgt i = tg at hst
  cases hst with
  | skip hw =>
    rw [hw]
    simp only [Bool.false_eq_true, if_false]
    exact keep htg undef (by rw [hv0]; exact undef_VR)
  | pure hw hv =>
    rw [hw, if_pos rfl]
    left
    rw [← pureOp_congr hopd] at hv
    obtain ⟨cv, hrun, hcv⟩ := pure_sound hv hf
    unfold Oper.wp
    rw [hrun w]
    exact keep htg cv (by rw [hv0]; exact hcv)
  | @store hw ty p y ho b off u ha hx x' hs =>
    rw [hw, if_pos rfl]
    left
    rw [← hopd p (by rw [ho]; simp [Op.operands])] at ha
    rw [← hopd y (by rw [ho]; simp [Op.operands])] at hx
    have hgb : g.get b = hT.get b := hmiss b fun j z h1 h2 h3 h4 => by
      have := t.one i j b x' z hi hn h1 h2 htg h4
      subst this; exact x.no h3
    obtain ⟨g', hs1, hs2, hs3⟩ := hs g hgb
    obtain ⟨w', hrun, hr', hfr'⟩ := store_sound hr hs1 (opdA_sound hf ha) (opdA_sound hf hx)
    have hrun' : (execOp a.eval o).run c.P w = .ok .skip w' := by
      simp [execOp, ho, hrun, Result.andThen]
    unfold Oper.wp
    rw [hrun']
    show Inv2 c hT tgt _ (a.put o.dst undef) w'
    refine ⟨v', hall', _, β, g', (hf.mono (.refl _)).put (by rw [hv0]; exact undef_VR) o.dst (k.fits i o · x.op), hfs', hr', hfrm.trans hfr', by rw [hs3, hgn], fun j q z h1 h2 h3 h4 => ?_, fun q hq => ?_⟩
    · rw [hs2]
      rcases (hL j).1 h3 with h3 | rfl
      · rw [if_neg]
        · exact hhit j q z h1 h2 h3 h4
        · intro e
          subst e
          have := t.one i j b x' z hi hn h1 h2 htg h4
          subst this; exact x.no h3
      · rw [htg] at h4
        simp only [Option.some.injEq, Prod.mk.injEq] at h4
        obtain ⟨rfl, rfl⟩ := h4
        rw [if_pos rfl]
    · rw [hs2, if_neg]
      · exact hmiss q fun j z h1 h2 h3 => hq j z h1 h2 ((hL j).2 (.inl h3))
      · intro e
        subst e
        exact hq i x' hi hn ((hL i).2 (.inr rfl)) htg

/-- Whatever the order: at the end the text's memory and slots. -/
theorem all_ok (k : c.Ok) {hT hF : Hp} {tgt : Nat → Option (Nat × Blk)} (t : Tl c hT hF tgt) {a : Act} {w : World} (hw : Rel c.E c.β0 c.h0 w) (hfr : Frm c.β0 c.h0 c.w0 c.β0 c.h0 w) (hf : FrR c.E c.β0 c.N c.fr0 a)
    (hQ : ∀ β' a' w', FrR c.E β' c.N (c.cf c.n) a' → Rel c.E β' hF w' → Frm c.β0 c.h0 c.w0 β' hF w' → Q .normal a' w') : wpAny c.P .any c.ops Q c.n (Array.replicate c.n false) a w := by
  have hnoL : ∀ j, ¬ isL (Array.replicate c.n false) j := fun j h => by
    unfold isL at h
    simp only [Array.getD_eq_getD_getElem?, Array.getElem?_replicate] at h
    split at h <;> simp at h
  refine any_ind k (J := fun listed a w => Inv c listed a w ∨ Inv2 c hT tgt listed a w) (fun listed a w h => h.elim (fun h => h.v.toInv1) fun h => h.v) (fun listed a w i o hJ x => ?_) (fun listed a w hJ hall => ?_) c.n _ a w ?_ (.inl ?_)
  · by_cases hall : ∀ j, j < c.m → isL listed j
    · have I2 : Inv2 c hT tgt listed a w := hJ.elim (fun I => conv k t I hall) id
      exact wpOp_mono (fun _ _ h => .inr h) (step2 k t I2 x)
    · rcases hJ with I | I
      · refine step_ok k I x (Nat.lt_of_not_le fun hle => hall fun j hj => (x.pre_in k I.v.toInv1 (t.ahead i o hle x.op j hj)).1) fun _ _ h => .inl h
      · exact absurd I.head hall
  · have I2 : Inv2 c hT tgt listed a w := hJ.elim (fun I => conv k t I fun j hj => hall j (by have := k.mle; omega)) id
    obtain ⟨v, _, fr, β, g, hf, hfs, hr, hfrm, hgn, hhit, hmiss⟩ := I2
    have hg : ∀ b, hF.get b = g.get b := fun b => by
      by_cases hx : ∃ i x, c.m ≤ i ∧ i < c.n ∧ tgt i = some (b, x)
      · obtain ⟨i, x, h1, h2, h3⟩ := hx
        rw [t.hit i b x h1 h2 h3, hhit i b x h1 h2 (hall i h2) h3]
      · rw [t.miss b fun i x h1 h2 h3 => hx ⟨i, x, h1, h2, h3⟩, hmiss b fun i x h1 h2 _ h3 => hx ⟨i, x, h1, h2, h3⟩]
    have hc := k.canon c.n (Nat.le_refl _)
    refine hQ β a w (hf.congr fun u => ?_) (hr.congr (by rw [t.next, hgn]) hg) (hfrm.congr (by rw [t.next, hgn]) hg)
    by_cases hx : ∃ (j : Nat) (oj : Oper), c.l[j]? = some oj ∧ oj.dst = some u
    · obtain ⟨j, oj, hoj, hd⟩ := hx
      have hj := k.lt hoj
      rw [hc.1 j oj u hj hoj hd, hfs.1 j oj u (hall j hj) hoj hd]
    · rw [hc.2 u fun j oj _ hoj hd => hx ⟨j, oj, hoj, hd⟩, hfs.2 u fun j oj _ hoj hd => hx ⟨j, oj, hoj, hd⟩]
  · have : cntB (fun j => (Array.replicate c.n false).getD j false) c.n = 0 := by
      have h1 := cntB_congr (f := fun j => (Array.replicate c.n false).getD j false) (g := fun _ => false) (n := c.n) fun q _ => by
        cases h : (Array.replicate c.n false).getD q false with
        | false => rfl
        | true => exact absurd h (hnoL q)
      rw [h1]
      have : ∀ n, cntB (fun _ => false) n = 0 := fun n => by induction n with
        | zero => rfl
        | succ n ih => exact ih
      exact this _
    omega
  · -- the start
    have hS0 : c.eN (Array.replicate c.n false) = 0 := by
      have h1 := cntB_congr (f := fun j => (Array.replicate c.n false).getD j false && c.em.testBit j) (g := fun _ => false) (n := c.n) fun q _ => by
        cases h : (Array.replicate c.n false).getD q false with
        | false => rfl
        | true => exact absurd h (hnoL q)
      unfold eN
      rw [h1]
      have : ∀ n, cntB (fun _ => false) n = 0 := fun n => by induction n with
        | zero => rfl
        | succ n ih => exact ih
      exact this _
    have hat := k.heap_at (i := 0) (Nat.zero_le _)
    have hb : ∀ j, c.h0.get (c.p.base + j) = none := fun j => by
      cases h : c.h0.get (c.p.base + j) with
      | none => rfl
      | some y => have := (hw.blk _ y h).1; rw [k.base] at this; omega
    have hr' : Rel c.E c.β0 (c.st 0).h w := by
      rw [k.s0h]
      exact ⟨fun b y hy => by obtain ⟨h1, h2⟩ := hw.blk b y hy; exact ⟨by show b < c.h0.next + c.n; omega, h2⟩, hw.inj, fun b hb => hw.fresh b (by have : c.h0.next + c.n ≤ b := hb; omega), hw.glob, hw.size⟩
    have hfr' : Frm c.β0 c.h0 c.w0 c.β0 (c.st 0).h w := by
      rw [k.s0h]
      exact ⟨Nat.le_add_right _ _, hfr.ext, hfr.size, hfr.same, hfr.range, fun b hb hn => hn, hfr.os, hfr.tape, hfr.output⟩
    refine ⟨⟨⟨by simp, fun j o hj => absurd hj (hnoL j)⟩, fun j hj => absurd hj (hnoL j)⟩, c.fr0, c.β0, (c.st 0).h, (c.st 0).h, hf, ⟨fun j o d hj => absurd hj (hnoL j), fun u _ => rfl⟩, hr', hfr', ⟨?_, rfl, ?_, fun b => ?_, fun j hj _ => ?_⟩, fun j hj _ => ?_⟩
    · rw [hS0]; exact hat
    · rw [k.s0h, k.base]; exact Nat.le_refl _
    · have : ∀ j, pendF c (Array.replicate c.n false) j = none := fun j => by
        cases h : pendF c (Array.replicate c.n false) j with
        | none => rfl
        | some y => exact absurd (pendF_some h).1 (hnoL j)
      rw [this]
      split <;> rfl
    · rw [k.s0h]; exact hb j
    · exact hw.fresh _ (by rw [k.base]; omega)
end Cx
end Go.Ae
