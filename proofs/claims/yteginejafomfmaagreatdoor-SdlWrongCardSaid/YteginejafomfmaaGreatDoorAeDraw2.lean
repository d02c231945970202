/- A region in any order: one step. -/
import Derived.Test.YteginejafomfmaaGreatDoorAeDraw1
set_option linter.unusedVariables false
set_option linter.unusedSimpArgs false
set_option maxHeartbeats 1000000
namespace Go.Ae
open Go
namespace Cx
variable {c : Cx}

open Classical in
/-- The blocks that are made and that no effect has to do with yet. -/
noncomputable def pendF (c : Cx) (listed : Array Bool) (j : Nat) : Option Blk :=
  if isL listed j ∧ ∀ q, isL listed q → c.Ew q → (c.pre q).testBit j = false then c.blk j else none
theorem pendF_some {listed : Array Bool} {j : Nat} {x : Blk} (h : pendF c listed j = some x) : isL listed j ∧ (∀ q, isL listed q → c.Ew q → (c.pre q).testBit j = false) ∧ c.blk j = some x := by
  unfold pendF at h
  split at h
  · rename_i hc; exact ⟨hc.1, hc.2, h⟩
  · cases h
theorem pendF_of {listed : Array Bool} {j : Nat} (h1 : isL listed j) (h2 : ∀ q, isL listed q → c.Ew q → (c.pre q).testBit j = false) : pendF c listed j = c.blk j := if_pos ⟨h1, h2⟩
theorem pendF_congr {l l' : Array Bool} {j : Nat} (h1 : isL l j ↔ isL l' j) (h2 : (∀ q, isL l q → c.Ew q → (c.pre q).testBit j = false) ↔ ∀ q, isL l' q → c.Ew q → (c.pre q).testBit j = false) : pendF c l j = pendF c l' j := by
  unfold pendF
  by_cases h : isL l j ∧ ∀ q, isL l q → c.Ew q → (c.pre q).testBit j = false
  · rw [if_pos h, if_pos ⟨h1.1 h.1, h2.1 h.2⟩]
  · rw [if_neg h, if_neg (fun h' => h ⟨h1.2 h'.1, h2.2 h'.2⟩)]

def eN (c : Cx) (listed : Array Bool) : Nat := cntB (fun j => listed.getD j false && c.em.testBit j) c.n

structure HSpec (c : Cx) (listed : Array Bool) (hh hS : Hp) : Prop where
  at_ : c.HS[c.eN listed]? = some hS
  next : hh.next = hS.next
  room : c.p.base + c.n ≤ hS.next
  get : ∀ b, hh.get b = ((if c.p.base ≤ b ∧ b < c.p.base + c.n then pendF c listed (b - c.p.base) else none).orElse fun _ => hS.get b)
  none_ : ∀ j, j < c.n → (∀ q, isL listed q → c.Ew q → (c.pre q).testBit j = false) → hS.get (c.p.base + j) = none

theorem HSpec.sub {listed : Array Bool} {hh hS : Hp} (s : HSpec c listed hh hS) {b : Nat} {x : Blk} (h : hS.get b = some x) : hh.get b = some x := by
  rw [s.get]
  by_cases hb : c.p.base ≤ b ∧ b < c.p.base + c.n
  · rw [if_pos hb]
    cases hp : pendF c listed (b - c.p.base) with
    | none => exact h
    | some y =>
      have := s.none_ (b - c.p.base) (by omega) (pendF_some hp).2.1
      have e : c.p.base + (b - c.p.base) = b := by omega
      rw [e, h] at this; cases this
  · rw [if_neg hb]; exact h

structure Inv (c : Cx) (listed : Array Bool) (a : Act) (w : World) : Prop where
  v : Inv0 c listed
  ex : ∃ fr β hh hS, FrR c.E β c.N fr a ∧ c.FrSpec (isL listed) fr ∧ Rel c.E β hh w ∧ Frm c.β0 c.h0 c.w0 β hh w ∧ HSpec c listed hh hS ∧ ∀ j, j < c.n → ¬ isL listed j → β (c.p.base + j) = none

theorem getD_set (listed : Array Bool) {i j : Nat} (h : i ≠ j) : (listed.setIfInBounds i true).getD j false = listed.getD j false := getD_set_ne false h
theorem getD_set_same {listed : Array Bool} {i : Nat} (h : i < listed.size) : (listed.setIfInBounds i true).getD i false = true := (isL_set h).2 (.inr rfl)

theorem eN_same {listed : Array Bool} {i : Nat} (he : c.em.testBit i = false) : c.eN (listed.setIfInBounds i true) = c.eN listed :=
  cntB_congr fun k _ => by
    by_cases e : i = k
    · subst e; rw [he]; simp
    · rw [getD_set _ e]
theorem eN_eff (k : c.Ok) {listed : Array Bool} (v : Inv0 c listed) {i : Nat} {o : Oper} (x : Next c listed i o) (hi : i < c.m) (he : c.em.testBit i = true) :
    c.eN listed = cntB (fun j => c.em.testBit j) i ∧ c.eN (listed.setIfInBounds i true) = cntB (fun j => c.em.testBit j) (i + 1) := by
  have hn : i < c.n := k.lt x.op
  have h1 : c.eN listed = cntB (fun j => c.em.testBit j) i := by
    refine cntB_below (fun q hq => ?_) (fun q hq => ?_) (Nat.le_of_lt hn)
    · cases hb : c.em.testBit q with
      | false => simp
      | true =>
        have := (x.pre_in k v.toInv1 (k.chain q i hq hi hb he)).1
        unfold isL at this
        rw [this]; rfl
    · cases hb : c.em.testBit q with
      | false => simp
      | true =>
        cases hl : listed.getD q false with
        | false => rfl
        | true =>
          have hl' : isL listed q := hl
          have hne : i ≠ q := fun e => x.no (e ▸ hl')
          have := k.chain i q (by omega) (v.head q hl') he hb
          rw [x.not_pre k v.toInv1 hl'] at this; cases this
  refine ⟨h1, ?_⟩
  have hno : listed.getD i false = false := by
    cases h : listed.getD i false with
    | false => rfl
    | true => exact absurd h x.no
  have h2 := cntB_add (f := fun j => listed.getD j false && c.em.testBit j) (g := fun j => (listed.setIfInBounds i true).getD j false && c.em.testBit j) (i := i)
    (by simp only [hno, Bool.false_and]) (by simp only [he, Bool.and_true]; exact getD_set_same (by rw [v.size]; exact hn)) (fun q hq => by simp only [getD_set _ (Ne.symm hq)]) (n := c.n)
  rw [if_pos hn] at h2
  show cntB _ _ = _
  rw [h2]
  show c.eN listed + 1 = bif c.em.testBit i then _ + 1 else _
  rw [he, h1]; rfl

theorem em_iff {i : Nat} {o : Oper} (ho : c.l[i]? = some o) : c.em.testBit i = isEff c.P o := by
  rw [Bool.eq_iff_iff, em, testBit_effMask]
  constructor
  · rintro ⟨o', h1, h2⟩; rw [ho] at h1; cases h1; exact h2
  · intro h; exact ⟨o, ho, h⟩
theorem isEff_kind {P : Program} {o : Oper} {k : Kind} (hk : kindOf P o = k) (hne : k ≠ .eff) : isEff P o = false := by
  unfold isEff; rw [hk]; cases k <;> first | rfl | exact absurd rfl hne
theorem Ew_iff {i : Nat} {o : Oper} (ho : c.l[i]? = some o) : c.Ew i ↔ StepD.EffW c.P c.l o (c.st i) :=
  ⟨fun ⟨o', h1, h2⟩ => by rw [ho] at h1; cases h1; exact h2, fun h => ⟨o, ho, h⟩⟩

/-- A block more, under a number of its own. -/
theorem push_at {β0 β : Beta} {h0 hh : Hp} {w0 w w' : World} (f : Frm β0 h0 w0 β hh w) {id sz : Nat} {b : Blk} {ob : Obj} (hid : h0.next ≤ id) (hw : w'.heap = w.heap.push ob) (h1 : w'.os = w.os) (h2 : w'.tape = w.tape) (h3 : w'.output = w.output) :
    Frm β0 h0 w0 (upd β id ⟨w.heap.size, 0, sz⟩) (hh.put id b) w' where
  next := f.next
  ext := fun q hq => by rw [upd_ne (by omega)]; exact f.ext q hq
  size := by rw [hw]; simp; have := f.size; omega
  same := fun q hq hno => by
    rw [hw, Array.getElem?_push, if_neg (by have := f.size; omega)]
    exact f.same q hq hno
  range := fun q y L hy hL hlt => by
    rw [Hp.get_put] at hy
    by_cases e : id = q
    · subst e; rw [upd_same] at hL; cases hL
      have := f.size
      simp only at hlt; omega
    · rw [if_neg e] at hy
      rw [upd_ne (Ne.symm e)] at hL
      exact f.range q y L hy hL hlt
  dom := fun q hq hn => by
    rw [Hp.get_put, if_neg (by omega)]; exact f.dom q hq hn
  os := h1.trans f.os
  tape := h2.trans f.tape
  output := h3.trans f.output

theorem HSpec.keep (k : c.Ok) {listed : Array Bool} (v : Inv0 c listed) {i : Nat} {o : Oper} (x : Next c listed i o) (hi : i < c.m) {hh hS : Hp} (s : HSpec c listed hh hS) (hEw : ¬ c.Ew i) (hblk : c.blk i = none)
    (hsame : c.em.testBit i = true → (c.st (i + 1)).h = (c.st i).h) : HSpec c (listed.setIfInBounds i true) hh hS where
  at_ := by
    cases he : c.em.testBit i with
    | false => rw [eN_same he]; exact s.at_
    | true =>
      obtain ⟨h1, h2⟩ := eN_eff k v x hi he
      rw [h2, k.heap_at (by omega), hsame he]
      have := s.at_
      rw [h1, k.heap_at (by omega)] at this
      exact this
  next := s.next
  room := s.room
  get := fun b => by
    rw [s.get]
    have hlt : i < listed.size := by rw [v.size]; exact k.lt x.op
    have : ∀ j, pendF c (listed.setIfInBounds i true) j = pendF c listed j := fun j => by
      by_cases e : j = i
      · subst e
        have h1 : pendF c listed j = none := by
          cases h : pendF c listed j with
          | none => rfl
          | some y => exact absurd (pendF_some h).1 x.no
        rw [h1]
        cases h : pendF c (listed.setIfInBounds j true) j with
        | none => rfl
        | some y => have := (pendF_some h).2.2; rw [hblk] at this; cases this
      · refine pendF_congr ⟨fun h => ((isL_set hlt).1 h).resolve_right e, fun h => (isL_set hlt).2 (.inl h)⟩ ⟨fun h q hq => h q ((isL_set hlt).2 (.inl hq)), fun h q hq he => ?_⟩
        rcases (isL_set hlt).1 hq with hq | rfl
        · exact h q hq he
        · exact absurd he hEw
    rw [this]
  none_ := fun j hj hu => s.none_ j hj fun q hq => hu q ((isL_set (by rw [v.size]; exact k.lt x.op)).2 (.inl hq))

theorem step_ok (k : c.Ok) {listed : Array Bool} {a : Act} {w : World} (I : Inv c listed a w) {i : Nat} {o : Oper} (x : Next c listed i o) (hi : i < c.m) {K : Act → World → Prop} {Q : Exit → Act → World → Prop}
    (hK : ∀ a' w', Inv c (listed.setIfInBounds i true) a' w' → K a' w') : wpOp c.P c.ops Q i K a w := by
  obtain ⟨v, fr, β, hh, hS, hf, hfs, hr, hfrm, hsp, hfresh⟩ := I
  have hn : i < c.n := k.lt x.op
  have hlt : i < listed.size := by rw [v.size]; exact hn
  have hL : ∀ j, isL (listed.setIfInBounds i true) j ↔ isL listed j ∨ j = i := fun j => isL_set hlt
  have v' := x.advance k v hi
  have hfs' := hfs.put k x.op x.no hL
  have hop : c.ops[i]? = some o := by have := x.op; rw [l, Array.getElem?_toList] at this; exact this
  have hwanted : Region.wanted o (yielded c.ops a.tmps) = wantedA c.l (c.st i).fr o := by
    rw [k.stcf i (Nat.le_of_lt hi)]
    exact (wanted_eq hf c.ops o).trans (x.wanted_eq k v.toInv1 hfs)
  have hopd := x.opd_eq k v.toInv1 hfs
  rw [← k.stcf i (Nat.le_of_lt hi)] at hopd
  have hst := k.step i o hi x.op
  have hat := k.heap_at (i := i + 1) (by omega)
  have hfin : ∀ (cv : Value) (β' : Beta) (hh' hS' : Hp) (w' : World), VR c.E.ρ β' (c.res i) cv → Ext β β' → Rel c.E β' hh' w' → Frm c.β0 c.h0 c.w0 β' hh' w' → HSpec c (listed.setIfInBounds i true) hh' hS' →
      (∀ j, j < c.n → ¬ isL (listed.setIfInBounds i true) j → β' (c.p.base + j) = none) → K (a.put o.dst cv) w' := fun cv β' hh' hS' w' h1 h2 h3 h4 h5 h6 =>
    hK _ _ ⟨v', _, β', hh', hS', (hf.mono h2).put h1 o.dst (k.fits i o · x.op), hfs', h3, h4, h5, h6⟩
  have hfresh' : ∀ j, j < c.n → ¬ isL (listed.setIfInBounds i true) j → ¬ isL listed j := fun j _ h h' => h ((hL j).2 (.inl h'))
  unfold wpOp
  rw [hop]
  simp only
  rw [hwanted]
  have hres : c.res i = c.res i := rfl
  generalize hs' : c.st (i + 1) = s' at hst
  generalize hv0 : c.res i = v0 at hst
  generalize hob : c.blk i = ob at hst
  cases hst with
  | skip hw =>
    rw [hw]
    simp only [Bool.false_eq_true, if_false]
    refine hfin undef β hh hS w (by rw [hv0]; exact undef_VR) (.refl _) hr hfrm ?_ fun j hj h => hfresh j hj (hfresh' j hj h)
    exact hsp.keep k v x hi (fun h => by have := ((Ew_iff x.op).1 h).1; rw [hw] at this; cases this) hob fun _ => by rw [hs']
  | pure hw hk hv =>
    rw [hw, if_pos rfl]
    left
    rw [← pureOp_congr hopd] at hv
    obtain ⟨cv, hrun, hcv⟩ := pure_sound hv hf
    unfold Oper.wp
    rw [hrun w]
    refine hfin cv β hh hS w (by rw [hv0]; exact hcv) (.refl _) hr hfrm ?_ fun j hj h => hfresh j hj (hfresh' j hj h)
    exact hsp.keep k v x hi (fun h => by have := ((Ew_iff x.op).1 h).2; rw [hk] at this; cases this) hob fun h => by rw [em_iff x.op, isEff_kind hk (by simp)] at h; cases h
  | read hw hk hv =>
    rw [hw, if_pos rfl]
    left
    -- the memory at hand is one that the check has looked at
    have hmem : (⟨o, (c.st i).fr, v0, (c.p.ws.getD i (0, 0)).1, (c.p.ws.getD i (0, 0)).2⟩ : Rd) ∈ (c.st c.m).rds :=
      k.rds_at (c.m - (i + 1)) (i + 1) (by omega) (by rw [hs']; exact List.mem_cons_self ..)
    have hag := k.agr _ hmem
    unfold agree at hag
    rw [List.all_eq_true] at hag
    have hag := hag (hS, c.eN listed) (by rw [List.mem_zipIdx_iff_getElem?]; exact hsp.at_)
    have hwin : c.p.ws.getD i (0, 0) = window c.P c.l i := by
      rw [k.hws]
      unfold windows
      rw [List.getD_eq_getElem?_getD, List.getElem?_map, List.getElem?_range (by simpa [l, n] using hn)]
      rfl
    have hlen : c.l.length = c.n := by simp [l, n]
    have hlo : (c.p.ws.getD i (0, 0)).1 ≤ c.eN listed := by
      rw [hwin]
      show cntB _ c.l.length ≤ _
      rw [hlen]
      refine cntB_mono fun q hq hb => ?_
      simp only [Bool.and_eq_true] at hb ⊢
      exact ⟨(x.pre_in k v.toInv1 hb.1).1, hb.2⟩
    have hhi : c.eN listed ≤ (c.p.ws.getD i (0, 0)).2 := by
      rw [hwin]
      show _ ≤ cntB _ c.l.length
      rw [hlen]
      refine cntB_mono fun q hq hb => ?_
      simp only [Bool.and_eq_true, Bool.not_eq_true'] at hb ⊢
      refine ⟨⟨hb.2, ?_⟩, x.not_pre k v.toInv1 hb.1⟩
      cases he : Nat.beq q i with
      | false => rfl
      | true => rw [Nat.eq_of_beq_eq_true he] at hb; exact absurd hb.1 x.no
    simp only at hag
    rw [Nat.ble_eq_true_of_le hlo, Nat.ble_eq_true_of_le hhi] at hag
    simp only [Bool.and_self, Bool.not_true, Bool.false_or] at hag
    split at hag
    · rename_i u hu
      have := beqV_eq _ _ _ hag
      subst this
      rw [← readOp_congr hopd] at hu
      obtain ⟨cv, hrun, hcv⟩ := read_sound (hr.sub (h := hS) (fun b y => hsp.sub) hsp.next.symm) hu hf
      unfold Oper.wp
      rw [hrun]
      refine hfin cv β hh hS w (by rw [hv0]; exact hcv) (.refl _) hr hfrm ?_ fun j hj h => hfresh j hj (hfresh' j hj h)
      exact hsp.keep k v x hi (fun h => by have := ((Ew_iff x.op).1 h).2; rw [hk] at this; cases this) hob fun h => by rw [em_iff x.op, isEff_kind hk (by simp)] at h; cases h
    · cases hag
  | @alloc hw hk _ b hv =>
    rw [hw, if_pos rfl]
    left
    rw [← allocOp_congr hopd] at hv
    have hid := hfresh i hn x.no
    have hEw : ¬ c.Ew i := fun h => by have := ((Ew_iff x.op).1 h).2; rw [hk] at this; cases this
    obtain ⟨cv, w', ob, sz, hrun, h1, h2, h3, h4, hcv, hB⟩ := alloc_sound (w := w) hid hf hv
    unfold Oper.wp
    rw [hrun]
    refine hfin cv _ (hh.put (c.p.base + i) b) hS w' (by rw [hv0]; exact hcv) (Ext.upd hid) ?_ (push_at hfrm (by rw [k.base]; omega) h1 h2 h3 h4) ?_ ?_
    · exact hr.push hid h1 (Nat.le_refl _) (by rw [hsp.next]; have := hsp.room; omega) hB
    · refine ⟨?_, hsp.next, hsp.room, fun q => ?_, fun j hj hu => hsp.none_ j hj fun q hq => hu q ((hL q).2 (.inl hq))⟩
      · rw [eN_same (by rw [em_iff x.op, isEff_kind hk (by simp)])]; exact hsp.at_
      · rw [Hp.get_put, hsp.get]
        by_cases e : c.p.base + i = q
        · subst e
          rw [if_pos rfl, if_pos (by omega)]
          have e2 : c.p.base + i - c.p.base = i := by omega
          rw [e2, pendF_of ((hL i).2 (.inr rfl)), hob]; · rfl
          intro q hq he
          rcases (hL q).1 hq with hq | rfl
          · exact x.not_pre k v.toInv1 hq
          · exact absurd he hEw
        · rw [if_neg e]
          by_cases h5 : c.p.base ≤ q ∧ q < c.p.base + c.n
          · rw [if_pos h5, if_pos h5]
            have : pendF c (listed.setIfInBounds i true) (q - c.p.base) = pendF c listed (q - c.p.base) := by
              refine pendF_congr ⟨fun h => ((hL _).1 h).resolve_right (by omega), fun h => (hL _).2 (.inl h)⟩ ⟨fun h q hq => h q ((hL q).2 (.inl hq)), fun h q hq he => ?_⟩
              rcases (hL q).1 hq with hq | rfl
              · exact h q hq he
              · exact absurd he hEw
            rw [this]
          · rw [if_neg h5, if_neg h5]
    · intro j hj h
      rw [upd_ne (by intro e; have : j = i := by omega
                     subst this; exact h ((hL j).2 (.inr rfl)))]
      exact hfresh j hj (hfresh' j hj h)
  | @eff hw hk _ h' q0 hlt0 hv =>
    rw [hw, if_pos rfl]
    left
    have hEw : c.Ew i := (Ew_iff x.op).2 ⟨hw, hk⟩
    have he : c.em.testBit i = true := by rw [em_iff x.op]; unfold isEff; rw [hk]
    obtain ⟨hE1, hE2⟩ := eN_eff k v x hi he
    have hS_eq : (c.st i).h = hS := by
      have := hsp.at_
      rw [hE1, k.heap_at (by omega)] at this
      exact Option.some.inj this
    have hpre : c.p.pre.getD i 0 = c.pre i := by rw [k.hpre]; rfl
    rw [hpre, hS_eq] at hv
    have hpub := publish_get (base := c.p.base) (mask := c.pre i) (l := (c.st i).pend) (h := hS) (f := c.blk) fun j b hj => ((k.pend_at i (by omega) j b).1 hj).2.1
    generalize publish c.p.base (c.pre i) (c.st i).pend hS = hin at hv hpub
    obtain ⟨hpn, hpg⟩ := hpub
    -- of what has been done up to here, which effects
    have hbefore : ∀ q, isL listed q → c.Ew q → q < i := fun q hq heq => by
      rcases Nat.lt_trichotomy q i with h | h | h
      · exact h
      · subst h; exact absurd hq x.no
      · obtain ⟨oq, hoq, hE⟩ := heq
        have := k.chain i q h (v.head q hq) he (by rw [em_iff hoq]; unfold isEff; rw [hE.2])
        rw [x.not_pre k v.toInv1 hq] at this; cases this
    have hpend : ∀ j y, c.p.base + j < c.p.base + c.n → (c.pre i).testBit j = true → (j, y) ∈ (c.st i).pend → pendF c listed j = c.blk j := fun j y _ hb hj => by
      obtain ⟨h1, h2, h3⟩ := (k.pend_at i (by omega) j y).1 hj
      exact pendF_of (x.pre_in k v.toInv1 hb).1 fun q hq heq => h3 q (hbefore q hq heq) heq
    have hsub : ∀ b y, hin.get b = some y → hh.get b = some y := fun b y hy => by
      rw [hpg] at hy
      by_cases hc : c.p.base ≤ b ∧ (c.pre i).testBit (b - c.p.base) = true ∧ ∃ z, (b - c.p.base, z) ∈ (c.st i).pend
      · rw [if_pos hc] at hy
        obtain ⟨z, hz⟩ := hc.2.2
        have hz' := (k.pend_at i (by omega) _ z).1 hz
        rw [hz'.2.1] at hy
        rw [hsp.get, if_pos ⟨hc.1, by omega⟩, hpend _ z (by omega) hc.2.1 hz, hz'.2.1]
        exact hy
      · rw [if_neg hc] at hy
        exact hsp.sub hy
    have hnx : hin.next = hh.next := by rw [hpn, hsp.next]
    have hvv : evalOp c.P c.E.G c.H q0 fr hin o = some (v0, h') := by rw [evalOp_congr hopd]; exact hv
    refine wp_of_step (k.hop q0 hlt0 hvv (hr.sub hsub hnx) hf) fun cv β' w' hcv hrel hfr => ?_
    obtain ⟨hh', hn', hg'⟩ := exists_puts h' c.p.base (pendF c (listed.setIfInBounds i true)) c.n
    have hless : ∀ j y, pendF c (listed.setIfInBounds i true) j = some y → (c.pre i).testBit j = false ∧ pendF c listed j = some y ∧ isL listed j ∧ ∀ q, isL listed q → c.Ew q → (c.pre q).testBit j = false := fun j y hy => by
      obtain ⟨h1, h2, h3⟩ := pendF_some hy
      have hb := h2 i ((hL i).2 (.inr rfl)) hEw
      have hne : j ≠ i := fun e => by subst e; rw [hob] at h3; cases h3
      have hl := ((hL j).1 h1).resolve_right hne
      have hu : ∀ q, isL listed q → c.Ew q → (c.pre q).testBit j = false := fun q hq => h2 q ((hL q).2 (.inl hq))
      exact ⟨hb, by rw [pendF_of hl hu, h3], hl, hu⟩
    have hinn : ∀ j, j < c.n → (c.pre i).testBit j = false → hin.get (c.p.base + j) = hS.get (c.p.base + j) := fun j hj hb => by
      rw [hpg, if_neg (by rintro ⟨_, h2, _⟩; have e : c.p.base + j - c.p.base = j := by omega
                          rw [e, hb] at h2; cases h2)]; rfl
    have hgg : ∀ b y, hh'.get b = some y → h'.get b = some y ∨ (hh.get b = some y ∧ hin.get b = none) := fun b y hy => by
      rw [hg'] at hy
      by_cases hc : c.p.base ≤ b ∧ b < c.p.base + c.n
      · rw [if_pos hc] at hy
        cases hp : pendF c (listed.setIfInBounds i true) (b - c.p.base) with
        | none => rw [hp] at hy; exact .inl hy
        | some z =>
          rw [hp] at hy
          obtain ⟨h1, h2, h3, h4⟩ := hless _ z hp
          refine .inr ⟨by rw [hsp.get, if_pos hc, h2]; exact hy, ?_⟩
          have e : c.p.base + (b - c.p.base) = b := by omega
          have := hinn (b - c.p.base) (by omega) h1
          rw [e] at this
          rw [this]
          have := hsp.none_ (b - c.p.base) (by omega) h4
          rw [e] at this; exact this
      · rw [if_neg hc] at hy; exact .inl hy
    have hrel' := hr.frame hsub hnx hrel hfr hn' hgg
    have hfr' := Frm.frame hr hsub hnx hfr hn' hgg
    refine hfin cv β' hh' h' w' (by rw [hv0]; exact hcv) (hfr'.Ext hr) hrel' (hfrm.trans hfr') ?_ ?_
    · refine ⟨by rw [hE2, hat, hs'], hn', ?_, hg', fun j hj hu => ?_⟩
      · have := hsp.room; have := hfr.next; omega
      · have hb := hu i ((hL i).2 (.inr rfl)) hEw
        refine hfr.dom _ (by have := hsp.room; omega) ?_
        rw [hinn j hj hb]
        exact hsp.none_ j hj fun q hq => hu q ((hL q).2 (.inl hq))
    · intro j hj h
      rw [hfr.ext _ (by have := hsp.room; omega)]
      exact hfresh j hj (hfresh' j hj h)
end Cx
end Go.Ae
