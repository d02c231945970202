/- Making, writing, leaving of blocks, on both sides. -/
import Derived.Test.YteginejafomfmaaGreatDoorAeRel
set_option linter.unusedVariables false
set_option linter.unusedSimpArgs false
namespace Go.Ae
open Go

theorem Hp.get_put (h : Hp) (b b' : Nat) (x : Blk) : (h.put b x).get b' = if b = b' then some x else h.get b' := T.get_set _ _ _ _
theorem Hp.get_new (h : Hp) (b' : Nat) (x : Blk) : (h.new x).get b' = if h.next = b' then some x else h.get b' := T.get_set _ _ _ _
theorem Hp.get_kill (h : Hp) (b b' : Nat) : (h.kill b).get b' = if b = b' then none else h.get b' := T.get_del _ _ _

def upd (β : Beta) (b : Nat) (L : Loc) : Beta := fun i => if i = b then some L else β i
theorem upd_same (β : Beta) (b : Nat) (L : Loc) : upd β b L b = some L := by simp [upd]
theorem upd_ne {β : Beta} {b i : Nat} {L : Loc} (h : i ≠ b) : upd β b L i = β i := by simp [upd, h]
theorem Ext.upd {β : Beta} {b : Nat} {L : Loc} (h : β b = none) : Ext β (upd β b L) := fun i L' hi => by
  by_cases e : i = b
  · subst e; rw [h] at hi; cases hi
  · rw [upd_ne e]; exact hi

section
variable {E : Env} {β : Beta} {h : Hp} {w w' : World}

theorem Rel.fresh_get (r : Rel E β h w) {b : Nat} (hb : h.next ≤ b) : h.get b = none := by
  cases e : h.get b with
  | none => rfl
  | some x => exact absurd (r.blk b x e).1 (by omega)

theorem Rel.lt (r : Rel E β h w) {b : Nat} {x : Blk} {L : Loc} (hb : h.get b = some x) (hL : β b = some L) : E.base ≤ L.blk ∧ L.blk < w.heap.size := by
  obtain ⟨_, L', o, h1, h2, h3, _⟩ := r.blk b x hb
  rw [hL] at h1; cases h1
  exact ⟨h2, (Array.getElem?_eq_some_iff.1 h3).1⟩

theorem glob_keep (r : Rel E β h w) (hs : ∀ k, k < E.base → w'.heap[k]? = w.heap[k]?) : ∀ g v, E.G g = some v → g < E.base ∧ ∃ cv, w'.cell? ⟨g, 0, none⟩ = some cv ∧ ∀ β', VR E.ρ β' v cv := by
  intro g v hg
  obtain ⟨h1, cv, h2, h3⟩ := r.glob g v hg
  refine ⟨h1, cv, ?_, h3⟩
  rw [← h2]
  simp only [World.cell?, hs g h1]

/-- Only the heap counts. -/
theorem Rel.of_heap (r : Rel E β h w) (he : w'.heap = w.heap) : Rel E β h w' where
  blk := by rw [he]; exact r.blk
  inj := r.inj
  fresh := r.fresh
  glob := glob_keep r fun k _ => by rw [he]
  size := by rw [he]; exact r.size
theorem Frm.of_heap (he : w'.heap = w.heap) (h1 : w'.os = w.os) (h2 : w'.tape = w.tape) (h3 : w'.output = w.output) : Frm β h w β h w' :=
  ⟨Nat.le_refl _, fun _ _ => rfl, by rw [he]; exact Nat.le_refl _, fun _ _ _ => by rw [he], fun b x L h1 h2 _ => ⟨b, x, L, h1, h2, rfl⟩, fun _ _ h => h, h1, h2, h3⟩

/-- A new block behind all others, under a number of its own. -/
theorem Rel.push (r : Rel E β h w) {id : Nat} {x : Blk} {o : Obj} {sz next : Nat} (hid : β id = none) (hw : w'.heap = w.heap.push o) (hn : h.next ≤ next) (hlt : id < next)
    (hb : BlkR E.ρ (upd β id ⟨w.heap.size, 0, sz⟩) ⟨w.heap.size, 0, sz⟩ x o) : Rel E (upd β id ⟨w.heap.size, 0, sz⟩) ⟨h.t.set id x, next⟩ w' := by
  have hold : ∀ k, k < w.heap.size → w'.heap[k]? = w.heap[k]? := fun k hk => by rw [hw]; simp [Array.getElem?_push, Nat.ne_of_lt hk]
  have hg : ∀ b, (⟨h.t.set id x, next⟩ : Hp).get b = if id = b then some x else h.get b := fun b => T.get_set _ _ _ _
  refine ⟨?_, ?_, ?_, ?_, ?_⟩
  · intro b y hy
    rw [hg] at hy
    split at hy
    · rename_i e; subst e; cases hy
      exact ⟨hlt, _, o, upd_same _ _ _, r.size, by rw [hw]; simp, hb⟩
    · rename_i e
      obtain ⟨h1, L, o', h2, h3, h4, h5⟩ := r.blk b y hy
      exact ⟨Nat.lt_of_lt_of_le h1 hn, L, o', by rw [upd_ne (Ne.symm e)]; exact h2, h3, by rw [hold _ (Array.getElem?_eq_some_iff.1 h4).1]; exact h4, h5.mono (Ext.upd hid)⟩
  · intro b b' y y' L L' hy hy' hL hL' e
    rw [hg] at hy hy'
    by_cases e1 : id = b
    · by_cases e2 : id = b'
      · omega
      · subst e1
        rw [upd_same] at hL; cases hL
        rw [if_neg e2] at hy'
        rw [upd_ne (Ne.symm e2)] at hL'
        have := (r.lt hy' hL').2
        simp only at e; omega
    · by_cases e2 : id = b'
      · subst e2
        rw [upd_same] at hL'; cases hL'
        rw [if_neg e1] at hy
        rw [upd_ne (Ne.symm e1)] at hL
        have := (r.lt hy hL).2
        simp only at e; omega
      · rw [if_neg e1] at hy; rw [if_neg e2] at hy'
        rw [upd_ne (Ne.symm e1)] at hL; rw [upd_ne (Ne.symm e2)] at hL'
        exact r.inj b b' y y' L L' hy hy' hL hL' e
  · intro b hb
    have hb' : next ≤ b := hb
    rw [upd_ne (by omega)]
    exact r.fresh b (by omega)
  · exact glob_keep r fun k hk => hold k (Nat.lt_of_lt_of_le hk r.size)
  · rw [hw]; simp; have := r.size; omega

theorem Frm.push (r : Rel E β h w) {x : Blk} {o : Obj} {sz : Nat} (hw : w'.heap = w.heap.push o) (h1 : w'.os = w.os) (h2 : w'.tape = w.tape) (h3 : w'.output = w.output) :
    Frm β h w (upd β h.next ⟨w.heap.size, 0, sz⟩) (h.new x) w' where
  next := Nat.le_succ _
  ext := fun b hb => upd_ne (by omega)
  size := by rw [hw]; simp
  same := fun k hk _ => by rw [hw]; simp [Array.getElem?_push, Nat.ne_of_lt hk]
  range := fun b y L hb hL hlt => by
    rw [Hp.get_new] at hb
    by_cases e : h.next = b
    · subst e
      rw [upd_same] at hL; cases hL
      simp only at hlt; omega
    · rw [if_neg e] at hb
      rw [upd_ne (Ne.symm e)] at hL
      exact ⟨b, y, L, hb, hL, rfl⟩
  dom := fun b hb hn => by rw [Hp.get_new, if_neg (by omega)]; exact hn
  os := h1
  tape := h2
  output := h3

/-- A block is written. -/
theorem Rel.write (r : Rel E β h w) {b : Nat} {x x' : Blk} {L : Loc} {o' : Obj} (hb : h.get b = some x) (hL : β b = some L) (hs : ∀ k, k ≠ L.blk → w'.heap[k]? = w.heap[k]?)
    (hz : w'.heap.size = w.heap.size) (ho : w'.heap[L.blk]? = some o') (hB : BlkR E.ρ β L x' o') : Rel E β (h.put b x') w' := by
  refine ⟨?_, ?_, r.fresh, ?_, by rw [hz]; exact r.size⟩
  · intro b' y hy
    rw [Hp.get_put] at hy
    split at hy
    · rename_i e; subst e; cases hy
      exact ⟨(r.blk b x hb).1, L, o', hL, (r.lt hb hL).1, ho, hB⟩
    · rename_i e
      obtain ⟨h1, L', o'', h2, h3, h4, h5⟩ := r.blk b' y hy
      refine ⟨h1, L', o'', h2, h3, ?_, h5⟩
      rw [hs _ fun e' => e (r.inj b b' x y L L' hb hy hL h2 e'.symm)]
      exact h4
  · intro b1 b2 y1 y2 L1 L2 h1 h2 hL1 hL2 e
    rw [Hp.get_put] at h1 h2
    by_cases e1 : b = b1
    · by_cases e2 : b = b2
      · omega
      · subst e1; rw [if_neg e2] at h2
        exact r.inj b b2 x y2 L1 L2 hb h2 hL1 hL2 e
    · by_cases e2 : b = b2
      · subst e2; rw [if_neg e1] at h1
        exact r.inj b1 b y1 x L1 L2 h1 hb hL1 hL2 e
      · rw [if_neg e1] at h1; rw [if_neg e2] at h2
        exact r.inj b1 b2 y1 y2 L1 L2 h1 h2 hL1 hL2 e
  · exact glob_keep r fun k hk => hs k (by have := (r.lt hb hL).1; omega)

theorem Frm.write (r : Rel E β h w) {b : Nat} {x x' : Blk} {L : Loc} (hb : h.get b = some x) (hL : β b = some L) (hs : ∀ k, k ≠ L.blk → w'.heap[k]? = w.heap[k]?)
    (hz : w'.heap.size = w.heap.size) (h1 : w'.os = w.os) (h2 : w'.tape = w.tape) (h3 : w'.output = w.output) : Frm β h w β (h.put b x') w' where
  next := Nat.le_refl _
  ext := fun _ _ => rfl
  size := by rw [hz]; exact Nat.le_refl _
  same := fun k _ hn => hs k fun e => hn b x L hb hL e.symm
  range := fun b' y L' hy hL' _ => by
    rw [Hp.get_put] at hy
    by_cases e : b = b'
    · subst e; exact ⟨b, x, L', hb, hL', rfl⟩
    · rw [if_neg e] at hy; exact ⟨b', y, L', hy, hL', rfl⟩
  dom := fun b' _ hn => by
    rw [Hp.get_put, if_neg (fun e => by subst e; rw [hb] at hn; cases hn)]; exact hn
  os := h1
  tape := h2
  output := h3

theorem Rel.kill (r : Rel E β h w) (b : Nat) : Rel E β (h.kill b) w where
  blk := fun b' y hy => by
    rw [Hp.get_kill] at hy
    split at hy
    · cases hy
    · exact r.blk b' y hy
  inj := fun b1 b2 y1 y2 L1 L2 h1 h2 => by
    rw [Hp.get_kill] at h1 h2
    split at h1
    · cases h1
    · split at h2
      · cases h2
      · exact r.inj b1 b2 y1 y2 L1 L2 h1 h2
  fresh := r.fresh
  glob := r.glob
  size := r.size
theorem Frm.kill (b : Nat) : Frm β h w β (h.kill b) w :=
  ⟨Nat.le_refl _, fun _ _ => rfl, Nat.le_refl _, fun _ _ _ => rfl, fun b' x L h1 h2 _ => by
    rw [Hp.get_kill] at h1
    split at h1
    · cases h1
    · exact ⟨b', x, L, h1, h2, rfl⟩, fun b' _ hn => by
    rw [Hp.get_kill]
    split
    · rfl
    · exact hn, rfl, rfl, rfl⟩

/-- A block goes on under another number, seen from another place; the old number is gone. -/
theorem Rel.move (r : Rel E β h w) {b : Nat} {x x' : Blk} {L : Loc} {o' : Obj} {d : Nat} (hb : h.get b = some x) (hL : β b = some L) (hs : ∀ k, k ≠ L.blk → w'.heap[k]? = w.heap[k]?)
    (hz : w'.heap.size = w.heap.size) (ho : w'.heap[L.blk]? = some o') (hB : BlkR E.ρ (upd β h.next ⟨L.blk, L.sh + d, L.sz⟩) ⟨L.blk, L.sh + d, L.sz⟩ x' o') :
    Rel E (upd β h.next ⟨L.blk, L.sh + d, L.sz⟩) ((h.kill b).new x') w' := by
  have hbn : b < h.next := (r.blk b x hb).1
  have hg : ∀ b', ((h.kill b).new x').get b' = if h.next = b' then some x' else if b = b' then none else h.get b' := fun b' => by
    rw [Hp.get_new, Hp.get_kill]; rfl
  have hx : Ext β (upd β h.next ⟨L.blk, L.sh + d, L.sz⟩) := Ext.upd (r.fresh _ (Nat.le_refl _))
  refine ⟨?_, ?_, ?_, ?_, by rw [hz]; exact r.size⟩
  · intro b' y hy
    rw [hg] at hy
    split at hy
    · rename_i e; subst e; cases hy
      exact ⟨Nat.lt_succ_self _, _, o', upd_same _ _ _, (r.lt hb hL).1, ho, hB⟩
    · split at hy
      · cases hy
      · rename_i e1 e2
        obtain ⟨h1, L', o'', h2, h3, h4, h5⟩ := r.blk b' y hy
        refine ⟨Nat.lt_succ_of_lt h1, L', o'', by rw [upd_ne (Ne.symm e1)]; exact h2, h3, ?_, h5.mono hx⟩
        rw [hs _ fun e' => e2 (r.inj b b' x y L L' hb hy hL h2 e'.symm)]
        exact h4
  · intro b1 b2 y1 y2 L1 L2 h1 h2 hL1 hL2 e
    rw [hg] at h1 h2
    by_cases e1 : h.next = b1
    · by_cases e2 : h.next = b2
      · omega
      · subst e1
        rw [upd_same] at hL1; cases hL1
        rw [if_neg e2] at h2
        rw [upd_ne (Ne.symm e2)] at hL2
        split at h2
        · cases h2
        · rename_i e3
          exact absurd (r.inj b b2 x y2 L L2 hb h2 hL hL2 e) e3
    · by_cases e2 : h.next = b2
      · subst e2
        rw [upd_same] at hL2; cases hL2
        rw [if_neg e1] at h1
        rw [upd_ne (Ne.symm e1)] at hL1
        split at h1
        · cases h1
        · rename_i e3
          exact absurd (r.inj b b1 x y1 L L1 hb h1 hL hL1 e.symm) e3
      · rw [if_neg e1] at h1; rw [if_neg e2] at h2
        rw [upd_ne (Ne.symm e1)] at hL1; rw [upd_ne (Ne.symm e2)] at hL2
        split at h1
        · cases h1
        · split at h2
          · cases h2
          · exact r.inj b1 b2 y1 y2 L1 L2 h1 h2 hL1 hL2 e
  · intro b' hb'
    have : h.next + 1 ≤ b' := hb'
    rw [upd_ne (by omega)]
    exact r.fresh b' (by omega)
  · exact glob_keep r fun k hk => hs k (by have := (r.lt hb hL).1; omega)

theorem Frm.move (r : Rel E β h w) {b : Nat} {x x' : Blk} {L : Loc} {d : Nat} (hb : h.get b = some x) (hL : β b = some L) (hs : ∀ k, k ≠ L.blk → w'.heap[k]? = w.heap[k]?)
    (hz : w'.heap.size = w.heap.size) (h1 : w'.os = w.os) (h2 : w'.tape = w.tape) (h3 : w'.output = w.output) :
    Frm β h w (upd β h.next ⟨L.blk, L.sh + d, L.sz⟩) ((h.kill b).new x') w' where
  next := Nat.le_succ _
  ext := fun b' hb' => upd_ne (by omega)
  size := by rw [hz]; exact Nat.le_refl _
  same := fun k _ hn => hs k fun e => hn b x L hb hL e.symm
  range := fun b' y L' hy hL' _ => by
    have hg : ((h.kill b).new x').get b' = if h.next = b' then some x' else if b = b' then none else h.get b' := by rw [Hp.get_new, Hp.get_kill]; rfl
    rw [hg] at hy
    by_cases e : h.next = b'
    · subst e; rw [upd_same] at hL'; cases hL'; exact ⟨b, x, L, hb, hL, rfl⟩
    · rw [if_neg e] at hy
      rw [upd_ne (Ne.symm e)] at hL'
      split at hy
      · cases hy
      · exact ⟨b', y, L', hy, hL', rfl⟩
  dom := fun b' hb' hn => by
    rw [Hp.get_new, if_neg (by show ¬ h.next = b'; omega), Hp.get_kill]
    split
    · rfl
    · exact hn
  os := h1
  tape := h2
  output := h3
end
end Go.Ae
