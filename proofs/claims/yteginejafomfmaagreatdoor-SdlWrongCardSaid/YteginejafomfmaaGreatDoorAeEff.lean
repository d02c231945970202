/- Operations that write: stores into rows, appends. -/
import Derived.Test.YteginejafomfmaaGreatDoorAeAlloc
set_option linter.unusedSimpArgs false
set_option linter.unusedVariables false
set_option maxHeartbeats 1000000
namespace Go.Ae
open Go

section
variable {P : Program} {E : Env} {β : Beta} {h : Hp} {w : World}

/-- What two worlds agree in, but for one block. -/
structure OneBlk (g : Nat) (w w' : World) : Prop where
  other : ∀ k, k ≠ g → w'.heap[k]? = w.heap[k]?
  size : w'.heap.size = w.heap.size
  os : w'.os = w.os
  tape : w'.tape = w.tape
  output : w'.output = w.output
theorem OneBlk.refl (g : Nat) (w : World) : OneBlk g w w := ⟨fun _ _ => rfl, rfl, rfl, rfl, rfl⟩
theorem OneBlk.trans {g : Nat} {w w' w'' : World} (x : OneBlk g w w') (y : OneBlk g w' w'') : OneBlk g w w'' :=
  ⟨fun k hk => (y.other k hk).trans (x.other k hk), y.size.trans x.size, y.os.trans x.os, y.tape.trans x.tape, y.output.trans x.output⟩

theorem setCell_one (w : World) (g o : Nat) (v : Value) : OneBlk g w (w.setCell ⟨g, o, none⟩ v) :=
  ⟨fun k hk => heap_setCell_other w ⟨g, o, none⟩ k v hk, by simp, rfl, rfl, rfl⟩
theorem setCell_row {g o : Nat} {v : Value} {c : Array Value} {e : TypeId} {f : Nat × Nat} (hw : w.heap[g]? = some (.cells c e f)) :
    (w.setCell ⟨g, o, none⟩ v).heap[g]? = some (.cells (c.setIfInBounds o v) e f) := by
  have hlt : g < w.heap.size := (Array.getElem?_eq_some_iff.1 hw).1
  simp [World.setCell, Array.getElem?_modify, hw]

/-- Cells stored one behind the other into a row. -/
theorem run_storeRow (g o : Nat) (e : TypeId) (f : Nat × Nat) : ∀ (vs : List Value) (i : Nat) (cur : Array Value) (w : World), w.heap[g]? = some (.cells cur e f) → (f.1 = f.2 ∨ f.2 ≤ o + i) → o + i + vs.length ≤ cur.size →
    (∀ v ∈ vs, v.oneCell' = true) → ∃ w' cur', (storeCells ⟨g, o, none⟩ vs i).run P w = .ok () w' ∧ w'.heap[g]? = some (.cells cur' e f) ∧ cur'.size = cur.size ∧
      (∀ k, cur'[k]? = if o + i ≤ k ∧ k < o + i + vs.length then vs[k - (o + i)]? else cur[k]?) ∧ OneBlk g w w'
  | [], i, cur, w, hw, hf, hl, h1 => ⟨w, cur, rfl, hw, rfl, fun k => by rw [if_neg (by simp)], .refl g w⟩
  | v :: vs, i, cur, w, hw, hf, hl, h1 => by
    simp only [List.length_cons] at hl
    have hlt : o + i < cur.size := by omega
    have hcell : w.cell? ⟨g, o + i, none⟩ = some cur[o + i] := by rw [cell_at hw]; exact Array.getElem?_eq_getElem hlt
    have hfr : w.frozen? ⟨g, o + i, none⟩ = false := by
      simp only [World.frozen?, hw]
      rcases hf with e | e
      · simp [e]
      · simp; omega
    have hst : (store ((⟨g, o, none⟩ : Addr).add i) v).run P w = .ok () (w.setCell ⟨g, o + i, none⟩ v) := by
      rw [Addr.add_lit, run_store P w _ v .plain (h1 v (by simp)), hcell]
      simp [hfr]
    obtain ⟨w', cur', g1, g2, g3, g4, g5⟩ := run_storeRow g o e f vs (i + 1) (cur.setIfInBounds (o + i) v) (w.setCell ⟨g, o + i, none⟩ v) (setCell_row hw) (by rcases hf with e | e; exact .inl e; exact .inr (by omega))
      (by simp; omega) (fun u hu => h1 u (by simp [hu]))
    refine ⟨w', cur', ?_, g2, by simpa using g3, fun k => ?_, (setCell_one w g (o + i) v).trans g5⟩
    · simp only [storeCells, Sem.run_bind, hst, Result.andThen_ok]; exact g1
    · rw [g4 k]
      by_cases e0 : k = o + i
      · subst e0
        rw [if_neg (by omega), if_pos (by simp)]
        simp [hlt]
      · by_cases e1 : o + (i + 1) ≤ k ∧ k < o + (i + 1) + vs.length
        · rw [if_pos e1, if_pos (by simp only [List.length_cons]; omega)]
          have : k - (o + i) = (k - (o + (i + 1))) + 1 := by omega
          rw [this, List.getElem?_cons_succ]
        · rw [if_neg e1, if_neg (by simp only [List.length_cons]; omega), Array.getElem?_setIfInBounds_ne (by omega)]

theorem cells_write {ρ : Nat → Value} {sh ext off : Nat} {t : T AVal} {c c' : Array Value} {l : List AVal} {vs : List Value} {ext' : Nat} (hc : CellsR ρ β sh ext t c) (hr : VRs ρ β l vs) (h1 : ∀ u ∈ vs, u.oneCell' = true)
    (hg : ∀ k, c'[k]? = if sh + off ≤ k ∧ k < sh + off + vs.length then vs[k - (sh + off)]? else c[k]?) (he : ext ≤ ext') (he' : off + l.length ≤ ext') : CellsR ρ β sh ext' (fillT l off t) c' := by
  have hl := hr.length
  intro i v hi
  rw [get_fillT] at hi
  split at hi
  · rename_i hlt
    obtain ⟨cv, e1, e2⟩ := hr.get hi
    refine ⟨by omega, cv, ?_, e2, h1 cv (List.mem_of_getElem? e1)⟩
    rw [hg, if_pos (by omega), ← e1]; congr 1; omega
  · rename_i hlt
    obtain ⟨g1, cv, g2, g3, g4⟩ := hc i v hi
    refine ⟨by omega, cv, ?_, g3, g4⟩
    rw [hg, if_neg (by omega)]; exact g2

/-- What an effect comes to. -/
def Does (P : Program) (E : Env) (β : Beta) (h : Hp) (w : World) (s : Sem Next) (v : AVal) (h' : Hp) : Prop :=
  ∃ nx cv β' w', s.run P w = .ok nx w' ∧ (nx = .value cv ∨ (nx = .skip ∧ cv = undef)) ∧ VR E.ρ β' v cv ∧ Rel E β' h' w' ∧ Frm β h w β' h' w'

theorem Rel.writeRow (r : Rel E β h w) {w' : World} {b : Nat} {x : Blk} {L : Loc} (hb : h.get b = some x) (hL : β b = some L) (ho : OneBlk L.blk w w') {x' : Blk} {o' : Obj} (hw : w'.heap[L.blk]? = some o') (hB : BlkR E.ρ β L x' o') :
    Rel E β (h.put b x') w' ∧ Frm β h w β (h.put b x') w' :=
  ⟨r.write hb hL ho.other ho.size hw hB, Frm.write r hb hL ho.other ho.size ho.os ho.tape ho.output⟩

theorem store_sound (r : Rel E β h w) {t : TypeId} {p v : AVal} {cp cv : Value} {h' : Hp} (hs : storeA P h t p v = some h') (hp : VR E.ρ β p cp) (hv : VR E.ρ β v cv) :
    ∃ w', (Instr.storeAt t cp cv).run P w = .ok () w' ∧ Rel E β h' w' ∧ Frm β h w β h' w' := by
  unfold storeA at hs
  split at hs
  · rename_i b off
    cases hp with | @ptr _ _ L hL =>
    split at hs
    · rename_i e ext fz c n hb hsz
      cases hcnd : (!v.isTuple && Nat.beq v.cells.length n && !Nat.beq n 0 && Nat.ble fz off && known c n off) with
      | false => rw [hcnd] at hs; cases hs
      | true =>
        rw [hcnd, cond_true] at hs; simp only [Option.some.injEq] at hs; subst hs
        simp only [Bool.and_eq_true, Bool.not_eq_true'] at hcnd
        obtain ⟨⟨⟨⟨g1, g2⟩, g3⟩, g4⟩, g5⟩ := hcnd
        have g2' := Nat.eq_of_beq_eq_true g2
        have g3' : n ≠ 0 := fun e => by rw [e] at g3; cases g3
        have g4' := Nat.le_of_ble_eq_true g4
        obtain ⟨h0, ca, f, hw, hsize, hc, hfr⟩ := r.row hb hL
        obtain ⟨hvc, hone⟩ := hv.cells g1
        have hvl : cv.cells.size = n := by rw [← g2', hvc.length]; simp
        obtain ⟨y, hy⟩ := known_spec _ _ _ g5 (n - 1) (by omega)
        obtain ⟨cy, e1, _, _⟩ := hc.at hy
        have hin := (Array.getElem?_eq_some_iff.1 e1).1
        obtain ⟨w', cur', k1, k2, k3, k4, k5⟩ := run_storeRow (P := P) L.blk (L.sh + off) e f cv.cells.toList 0 ca w hw (by rcases hfr with e | e; exact .inl e; exact .inr (by omega)) (by simp; omega) hone
        refine ⟨w', ?_, r.writeRow hb hL k5 k2 ?_⟩
        · have : ¬ cv.cells.size ≠ n := by omega
          simp [Instr.storeAt, Instr.sureAddr, storeVar, sizeT_sound hsz, hvl, k1]
        · refine ⟨h0, rfl, by omega, ?_, hfr⟩
          exact cells_write hc hvc hone (fun k => by simpa using k4 k) (Nat.le_max_left _ _) (by rw [g2']; exact Nat.le_max_right _ _)
    · cases hs
  · cases hs
end
end Go.Ae
