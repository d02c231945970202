/- Operations that make one block. -/
import Derived.Test.YteginejafomfmaaGreatDoorAeRead2
import Derived.Great.BuildSlice
set_option linter.unusedSimpArgs false
set_option linter.unusedVariables false
set_option maxHeartbeats 1000000
namespace Go.Ae
open Go

section
variable {P : Program} {E : Env} {β : Beta} {h : Hp} {w : World} {n : Nat} {fr : T AVal} {a : Act}

theorem cells_fill {ρ : Nat → Value} {l : List AVal} {vs : List Value} (hr : VRs ρ β l vs) (h1 : ∀ u ∈ vs, u.oneCell' = true) : CellsR ρ β 0 l.length (fillT l 0 .e) vs.toArray := by
  intro i v hi
  rw [get_fillT] at hi
  split at hi
  · rename_i hlt
    simp only [Nat.sub_zero] at hi
    obtain ⟨cv, e1, e2⟩ := hr.get hi
    exact ⟨by omega, cv, by simpa using e1, e2, h1 cv (List.mem_of_getElem? e1)⟩
  · simp at hi

/-- A piece of the model that makes one block, to which the abstract one of number id belongs. -/
def Makes (P : Program) (E : Env) (β : Beta) (w : World) (s : Sem Next) (id : Nat) (v : AVal) (b : Blk) : Prop :=
  ∃ cv w' o sz, s.run P w = .ok (.value cv) w' ∧ w'.heap = w.heap.push o ∧ w'.os = w.os ∧ w'.tape = w.tape ∧ w'.output = w.output ∧
    VR E.ρ (upd β id ⟨w.heap.size, 0, sz⟩) v cv ∧ BlkR E.ρ (upd β id ⟨w.heap.size, 0, sz⟩) ⟨w.heap.size, 0, sz⟩ b o

theorem row_BlkR {ρ : Nat → Value} {e : TypeId} {l : List AVal} {vs : Array Value} {B : Nat} (hr : VRs ρ β l vs.toList) (h1 : ∀ u ∈ vs.toList, u.oneCell' = true) :
    BlkR ρ β ⟨B, 0, vs.size⟩ (.cells e l.length 0 (fillT l 0 .e)) (.cells vs e) :=
  ⟨rfl, rfl, rfl, by simpa using cells_fill hr h1, .inl rfl⟩

theorem repeatL_length (z : List AVal) : ∀ k, (repeatL z k).length = k * z.length
  | 0 => by simp [repeatL]
  | k + 1 => by simp [repeatL, repeatL_length z k, Nat.add_mul, Nat.add_comm]
theorem repeatL_get (z : List AVal) (hz : 0 < z.length) : ∀ (k i : Nat), i < k * z.length → (repeatL z k)[i]? = z[i % z.length]?
  | 0, i, hi => by omega
  | k + 1, i, hi => by
    simp only [repeatL]
    by_cases hlt : i < z.length
    · rw [List.getElem?_append_left hlt, Nat.mod_eq_of_lt hlt]
    · rw [List.getElem?_append_right (by omega), repeatL_get z hz k (i - z.length) (by rw [Nat.add_mul] at hi; omega)]
      congr 1
      rw [Nat.mod_eq_sub_mod (show z.length ≤ i by omega)]

theorem repeat_VRs {ρ : Nat → Value} {z : List AVal} {cz : Array Value} (hr : VRs ρ β z cz.toList) (h1 : ∀ u ∈ cz.toList, u.oneCell' = true) (k : Nat) (hz : 0 < z.length) :
    VRs ρ β (repeatL z k) ((Array.range (k * z.length)).map (cz[· % cz.size]!)).toList ∧ ∀ u ∈ ((Array.range (k * z.length)).map (cz[· % cz.size]!)).toList, u.oneCell' = true := by
  have hsz : cz.size = z.length := by rw [hr.length]; simp
  constructor
  · refine VRs.of_get (by simp [repeatL_length]) fun i x hx => ?_
    have hi : i < k * z.length := by
      have := (List.getElem?_eq_some_iff.1 hx).1
      rwa [repeatL_length] at this
    rw [repeatL_get z hz k i hi] at hx
    obtain ⟨v, e1, e2⟩ := hr.get hx
    have e3 : cz[i % cz.size]? = some v := by rw [hsz]; simpa using e1
    exact ⟨v, by simp [hi, getElem!_def, e3], e2⟩
  · intro u hu
    simp only [Array.toList_map, List.mem_map] at hu
    obtain ⟨i, hi, rfl⟩ := hu
    have hlt : i % cz.size < cz.size := Nat.mod_lt _ (by omega)
    have e3 : cz[i % cz.size]? = some cz[i % cz.size] := Array.getElem?_eq_getElem hlt
    rw [getElem!_def, e3]
    exact h1 _ (by simp)

theorem zeroT_all {t : TypeId} {z : AVal} (h : zeroT P t = some z) : ∃ cz, (∃ i, P.info? t = some i ∧ i.zero = some cz) ∧ (∀ w, (zeroValue t).run P w = .ok cz w) ∧ ∀ β : Beta, VR E.ρ β z cz := by
  unfold zeroT at h
  cases hi : P.info? t with
  | none => rw [hi] at h; cases h
  | some i =>
    rw [hi] at h
    simp only [Option.bind_some] at h
    cases hz : i.zero with
    | none => rw [hz] at h; cases h
    | some cz =>
      rw [hz] at h
      exact ⟨cz, ⟨i, rfl, hz⟩, fun w => by simp [zeroValue, typeInfo, hi, hz], fun β => ofConst_sound _ _ _ h⟩

theorem PartsR.mono {β' : Beta} (hx : Ext β β') : ∀ {ps : List (Nat × AVal)} {vs : List (Nat × Value)}, PartsR E β ps vs → PartsR E β' ps vs
  | _, _, .nil => .nil
  | _, _, .cons h hs => .cons (h.mono hx) (PartsR.mono hx hs)

theorem alloc_sound {o : Oper} {id : Nat} {v : AVal} {b : Blk} (hid : β id = none) (hf : FrR E β n fr a) (ha : allocOp P fr id o = some (v, b)) : Makes P E β w (execOp a.eval o) id v b := by
  have hx : ∀ L, Ext β (upd β id L) := fun L => Ext.upd hid
  unfold allocOp at ha
  split at ha <;> rename_i ho
  · -- alloc
    rename_i e
    split at ha
    · rename_i z hz
      cases ht : z.isTuple with
      | true => rw [ht] at ha; cases ha
      | false =>
        rw [ht, cond_false] at ha; simp only [Option.some.injEq, Prod.mk.injEq] at ha
        obtain ⟨rfl, rfl⟩ := ha
        obtain ⟨cz, _, hr, hv⟩ := zeroT_all (E := E) hz
        obtain ⟨hc, h1⟩ := (hv (upd β id ⟨w.heap.size, 0, cz.cells.size⟩)).cells ht
        exact ⟨.pointer (some ⟨w.heap.size, 0, none⟩), w.alloc (.cells cz.cells e), .cells cz.cells e, cz.cells.size, by simp [execOp, ho, Instr.alloc, hr, newVar, newRow], rfl, rfl, rfl, rfl,
          .ptr (upd_same _ _ _), row_BlkR hc h1⟩
    · cases ha
  · -- box
    rename_i e x
    split at ha
    · rename_i y hy
      have hv := opdA_sound hf hy
      cases ht : y.isTuple with
      | true => rw [ht] at ha; cases ha
      | false =>
        rw [ht, cond_false] at ha; simp only [Option.some.injEq, Prod.mk.injEq] at ha
        obtain ⟨rfl, rfl⟩ := ha
        obtain ⟨hc, h1⟩ := (hv.mono (hx ⟨w.heap.size, 0, (a.eval x).cells.size⟩)).cells ht
        exact ⟨.pointer (some ⟨w.heap.size, 0, none⟩), w.alloc (.cells (a.eval x).cells e), .cells (a.eval x).cells e, (a.eval x).cells.size, by simp [execOp, ho, Instr.box, newVar, newRow], rfl, rfl, rfl, rfl,
          .ptr (upd_same _ _ _), row_BlkR hc h1⟩
    · cases ha
  · -- buildSlice
    rename_i t len parts
    split at ha
    · rename_i e he
      cases hlen : Nat.beq len 0 with
      | true =>
        rw [hlen, cond_true] at ha
        have hl0 : len = 0 := Nat.eq_of_beq_eq_true hlen
        subst hl0
        split at ha
        · rename_i size hs hnil
          simp only [Option.some.injEq, Prod.mk.injEq] at ha
          obtain ⟨rfl, rfl⟩ := ha
          have hu : P.underlying t = some (.slice e) := by
            unfold elemSlice und at he
            split at he
            · rename_i e' hu; simp only [Option.some.injEq] at he; subst he; exact hu
            · cases he
          have hp0 : parts = #[] := Array.ext' (by simpa using hnil)
          refine ⟨.slice (some ⟨w.heap.size, 0, none⟩) 0 0, w.alloc (.cells #[] e), .cells #[] e, 0, ?_, rfl, rfl, rfl, rfl, .slice (upd_same _ _ _) (Nat.succ_pos _) (Nat.le_refl _) (Nat.le_refl _) (fun _ => rfl) (by simp), ?_⟩
          · unfold sizeT at hs
            cases hi : P.info? e with
            | none => rw [hi] at hs; cases hs
            | some i =>
              simp [execOp, ho, hp0, Instr.buildSlice, run_underlying hu, sizeOf, typeInfo, hi, Instr.fill, newRow]
              have e0 : Array.range 0 = #[] := rfl
              rw [e0, Array.map_empty]
          · exact ⟨rfl, rfl, rfl, fun i v hv => by simp at hv, .inl rfl⟩
        · cases ha
      | false =>
      rw [hlen, cond_false] at ha
      split at ha
      · rename_i size z ps hs hz hp
        cases hcnd : (z.isTuple || Nat.beq (len * size) 0 || !Nat.ble (len * size) (2 ^ 24) || !Nat.beq z.cells.length size) with
        | true => rw [hcnd] at ha; cases ha
        | false =>
          rw [hcnd, cond_false] at ha
          simp only [Bool.or_eq_false_iff, Bool.not_eq_false'] at hcnd
          obtain ⟨⟨⟨ht, hn0⟩, hle⟩, hzs⟩ := hcnd
          have hne : len * size ≠ 0 := fun e => by rw [e] at hn0; cases hn0
          have hle' := Nat.le_of_ble_eq_true hle
          have hzl := Nat.eq_of_beq_eq_true hzs
          split at ha
          · rename_i cs hcs
            simp only [Option.some.injEq, Prod.mk.injEq] at ha
            obtain ⟨rfl, rfl⟩ := ha
            have hu : P.underlying t = some (.slice e) := by
              unfold elemSlice und at he
              split at he
              · rename_i e' hu; simp only [Option.some.injEq] at he; subst he; exact hu
              · cases he
            obtain ⟨cz, ⟨i, hi, hiz⟩, _, hv⟩ := zeroT_all (E := E) hz
            have hsi : i.size = size := by
              unfold sizeT at hs; rw [hi] at hs; simpa using hs
            have hsz0 : 0 < size := by
              rcases Nat.eq_zero_or_pos size with e0 | e0
              · subst e0; simp at hne
              · exact e0
            have key : ∀ β', Ext β β' → ∃ cout, Instr.fill (fun i => some (i * size, size)) ((Array.range (len * size)).map (cz.cells[· % cz.cells.size]!)) (parts.toList.map fun (i, x) => (i, a.eval x)) = some cout ∧
                VRs E.ρ β' cs cout.toList ∧ (∀ u ∈ cout.toList, u.oneCell' = true) ∧ cout.size = len * size := by
              intro β' hx'
              obtain ⟨hc, h1⟩ := (hv β').cells ht
              have hrep := repeat_VRs hc h1 len (by omega)
              rw [hzl] at hrep
              obtain ⟨cout, g1, g2, g3, g4⟩ := fillP_sound hcs ((partsA_sound hf hp).mono hx') hrep.1 hrep.2
              exact ⟨cout, g1, g2, g3, by rw [g4]; simp⟩
            obtain ⟨cout, g1, _, _, gsz⟩ := key β (Ext.refl β)
            obtain ⟨cout', g1', g2, g3, _⟩ := key (upd β id ⟨w.heap.size, 0, cout.size⟩) (hx _)
            rw [g1] at g1'; cases g1'
            have hcl : cs.length = len * size := by rw [g2.length]; simp [gsz]
            refine ⟨.slice (some ⟨w.heap.size, 0, none⟩) len len, w.alloc (.cells cout e), .cells cout e, cout.size, ?_, rfl, rfl, rfl, rfl, .slice (upd_same _ _ _) hsz0 (Nat.le_refl _) (Nat.le_refl _) (fun _ => rfl) (by simp [gsz]), ?_⟩
            · have hrb := run_buildSlice (P := P) w t e len (parts.map fun (i, x) => (i, a.eval x)) cout i cz hu hi hiz (by rw [hsi]; omega) (by rw [hsi]; exact hne) (by rw [hsi]; simpa using g1)
              simp only [execOp, ho, Sem.run_bind, hrb, Result.andThen_ok, Sem.run_pure]
            · have := row_BlkR (B := w.heap.size) (e := e) g2 g3
              rw [hcl] at this; exact this
          · cases ha
      · cases ha
    · cases ha
  · -- makeMap
    simp only [Option.some.injEq, Prod.mk.injEq] at ha
    obtain ⟨rfl, rfl⟩ := ha
    exact ⟨.map (some w.heap.size), w.alloc (.map #[] 0), .map #[] 0, 0, by simp [execOp, ho, Instr.makeMap], rfl, rfl, rfl, rfl, .map (upd_same β id ⟨w.heap.size, 0, 0⟩), rfl, rfl, trivial⟩
  · -- range over a text
    rename_i t x
    split at ha
    · rename_i k c hu hy
      have hv := opdA_sound hf hy
      generalize hcx : a.eval x = cx at hv
      cases hv with | @str _ _ s h1 h2 =>
      simp only [Option.some.injEq, Prod.mk.injEq] at ha
      obtain ⟨rfl, rfl⟩ := ha
      exact ⟨.pointer (some ⟨w.heap.size, 0, none⟩), w.alloc (.stringIter s 0), .stringIter s 0, 0, by simp [execOp, ho, hcx, Instr.range, run_underlying hu], rfl, rfl, rfl, rfl,
        .ptr (upd_same _ _ _), rfl, rfl, h1, h2⟩
    · cases ha
  · cases ha
end
end Go.Ae
