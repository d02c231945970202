/- Operations that write: texts out of rows, steps through a text, make; and the one theorem. -/
import Derived.Test.YteginejafomfmaaGreatDoorAeEff2
set_option linter.unusedSimpArgs false
set_option linter.unusedVariables false
set_option maxHeartbeats 1000000
namespace Go.Ae
open Go

section
variable {P : Program} {E : Env} {β : Beta} {h : Hp} {w : World}

theorem freeze_one (w : World) (g o n : Nat) : OneBlk g w (w.freeze ⟨g, o, none⟩ n) := by
  unfold World.freeze
  split
  · exact .refl g w
  · exact ⟨fun k hk => by simp [Array.getElem?_modify, Ne.symm hk], by simp, rfl, rfl, rfl⟩
theorem freeze_at {g o n : Nat} {c : Array Value} {e : TypeId} {f : Nat × Nat} (hw : w.heap[g]? = some (.cells c e f)) (hn : n ≠ 0) :
    (w.freeze ⟨g, o, none⟩ n).heap[g]? = some (.cells c e (if f.1 == f.2 then (o, o + n) else (min f.1 o, max f.2 (o + n)))) := by
  unfold World.freeze
  rw [if_neg hn]
  simp [Array.getElem?_modify, hw]

theorem unsafeString_sound (r : Rel E β h w) {t it ty : TypeId} {p v : AVal} {cp : Value} {n : Int} {h' : Hp} (ha : unsafeStringOp P t p n h = some (v, h')) (hp : VR E.ρ β p cp) :
    DoesV P E β h w (Builtin.unsafeString_ #[t, it] ty #[cp, .int .i64 n]) v h' := by
  unfold unsafeStringOp at ha
  split at ha
  · cases hp; simp only [Option.some.injEq, Prod.mk.injEq] at ha
    obtain ⟨rfl, rfl⟩ := ha
    exact ⟨.string .empty, β, w, Lib.run_unsafeString_none w t it ty none, .str rfl (by simp), r, .refl _ _ _⟩
  · cases hp; simp only [Option.some.injEq, Prod.mk.injEq] at ha
    obtain ⟨rfl, rfl⟩ := ha
    exact ⟨.string .empty, β, w, Lib.run_unsafeString_none w t it ty (some _), .str rfl (by simp), r, .refl _ _ _⟩
  · rename_i p' k
    unfold und at ha
    split at ha
    · rename_i b off et hu
      cases hp with | @ptr _ _ L hL =>
      split at ha
      · rename_i e ext fz c hb
        cases hc : (Nat.beq e et && Nat.beq (P.cellsOf e) 1 && Nat.ble (k + 1) (2 ^ 62) && Nat.beq off 0) with
        | false => rw [hc] at ha; cases ha
        | true =>
          rw [hc, cond_true] at ha
          simp only [Bool.and_eq_true] at hc
          obtain ⟨⟨⟨c1, c2⟩, c3⟩, c4⟩ := hc
          have := Nat.eq_of_beq_eq_true c1; subst this
          have hc1 := Nat.eq_of_beq_eq_true c2
          have hk := Nat.le_of_ble_eq_true c3
          have := Nat.eq_of_beq_eq_true c4; subst this
          cases hr : readT c (k + 1) 0 with
          | none => rw [hr] at ha; cases ha
          | some l =>
            rw [hr] at ha; simp only [Option.bind_some] at ha
            cases hcode : natOfCells l with
            | none => rw [hcode] at ha; cases ha
            | some code =>
              rw [hcode] at ha; simp only [Option.some.injEq, Prod.mk.injEq] at ha
              obtain ⟨rfl, rfl⟩ := ha
              obtain ⟨h0, ca, f, hw, hsize, hcr, hfr⟩ := r.row hb hL
              obtain ⟨vs, e1, e2, e3, e4⟩ := read_cells hcr hr
              obtain ⟨bs, g1, g2, g3⟩ := natOfCells_sound hcode e2
              have hbl : bs.length = k + 1 := by rw [g3] at e1; simpa using e1
              have hcells : ∀ j x, bs[j]? = some x → w.cell? ((⟨L.blk, 0, none⟩ : Addr).add j) = some (.int .u8 x.toNat) := by
                intro j x hx
                rw [Addr.add_lit, cell_at hw]
                have := e4 j (.int .u8 x.toNat) (by rw [g3]; simp [hx])
                rw [h0] at this; simpa using this
              have hlen : bs.length ≤ ca.size := by
                obtain ⟨y, hy⟩ : ∃ y, bs[k]? = some y := ⟨bs[k]'(by omega), List.getElem?_eq_getElem (by omega)⟩
                have := e4 k (.int .u8 y.toNat) (by rw [g3]; simp [hy])
                have := (Array.getElem?_eq_some_iff.1 this).1
                omega
              have hrun := Lib.run_unsafeString_row (P := P) w t it ty e hu hc1 L.blk ca.size (by simp [World.shape?, hw]) bs (by intro e; rw [e] at hbl; simp at hbl) hlen (by omega) hcells
              rw [hbl] at hrun
              obtain ⟨q1, q2⟩ := r.writeRow hb hL (freeze_one w L.blk 0 (k + 1)) (freeze_at hw (by omega)) (x' := .cells e ext (Nat.max fz (0 + (k + 1))) c) ⟨h0, rfl, hsize, hcr, by
                simp only [h0, Nat.zero_add]
                right
                split
                · exact Nat.le_max_right _ _
                · rename_i hne
                  rcases hfr with q | q
                  · exact absurd q (by simpa using hne)
                  · rw [h0, Nat.zero_add] at q
                    exact Nat.max_le.2 ⟨Nat.le_trans q (Nat.le_max_left _ _), Nat.le_max_right _ _⟩⟩
              have hcp : L.sh + 0 = 0 := by omega
              refine ⟨.string ⟨bs.toArray⟩, β, _, by rw [hcp]; exact_mod_cast hrun, .str ?_ ?_, q1, q2⟩
              · rw [← g2, ← hbl, decode_codeOf]
              · rw [← g2, ← hbl]; exact codeOf_lt bs
      · cases ha
    · cases ha
  · cases ha

/-! A step through a text. -/
theorem byteAt_get {s : ByteArray} {n a : Nat} (hs : s.data.toList = decode n a) (ha : a < 256 ^ n) (j : Nat) : (s.get! j).toNat = byteAt a j := by
  by_cases hj : j < n
  · have h3 := decode_get n a j hj
    rw [← hs, Array.getElem?_toList] at h3
    have : s.get! j = UInt8.ofNat (byteAt a j) := by
      show s.data[j]! = _
      rw [getElem!_def, h3]
    rw [this, UInt8.toNat_ofNat']
    exact Nat.mod_eq_of_lt (Nat.mod_lt _ (by omega))
  · have h1 : s.data[j]? = none := by
      rw [← Array.getElem?_toList, hs]
      exact List.getElem?_eq_none (by simp; omega)
    have : s.get! j = 0 := by
      show s.data[j]! = _
      rw [getElem!_def, h1]; rfl
    rw [this]
    unfold byteAt
    rw [Nat.shiftRight_eq_div_pow, two_pow_8]
    have : a / 256 ^ j = 0 := Nat.div_eq_of_lt (Nat.lt_of_lt_of_le ha (Nat.pow_le_pow_right (by omega) (by omega)))
    rw [this]; rfl

theorem runeAt_eq {s : ByteArray} {n a : Nat} (hs : s.data.toList = decode n a) (ha : a < 256 ^ n) (i : Nat) : Utf8.decode s i = runeAt n a i := by
  have hsz := size_of_data hs
  have hb : ∀ x y : Nat, Nat.beq x y = (x == y) := fun x y => by
    rw [Bool.eq_iff_iff]
    simp only [beq_iff_eq]
    exact ⟨fun e => Nat.eq_of_beq_eq_true e, fun e => by rw [e]; exact Nat.beq_refl _⟩
  have hl : ∀ x y : Nat, Nat.blt x y = decide (x < y) := fun x y => by
    rw [Bool.eq_iff_iff]; simp [Nat.blt_eq]
  unfold Utf8.decode runeAt
  simp only [byteAt_get hs ha, hsz, hb, hl]

theorem run_getIter {r : Nat} {s : ByteArray} {pos : Nat} (hw : w.heap[r]? = some (.stringIter s pos)) : (getObj r).run P w = .ok (.stringIter s pos) w := by
  simp [getObj, Sem.run, hw]
theorem run_setIter {r : Nat} {s : ByteArray} {pos : Nat} {o : Obj} (hw : w.heap[r]? = some (.stringIter s pos)) :
    (setObj r o).run P w = .ok () { w with heap := w.heap.setIfInBounds r o } := by
  simp [setObj, Sem.run, hw]

theorem next_sound (r : Rel E β h w) {ty : TypeId} {it v : AVal} {ci : Value} {h' : Hp} (ha : nextStr h it = some (v, h')) (hi : VR E.ρ β it ci) : DoesV P E β h w (Instr.next ci true ty) v h' := by
  unfold nextStr at ha
  split at ha
  · rename_i b
    cases hi with | @ptr _ _ L hL =>
    split at ha
    · rename_i n a pos hb
      obtain ⟨_, L', o, k1, k2, k3, k4⟩ := r.blk b _ hb
      rw [hL] at k1; cases k1
      cases o <;> first | exact k4.elim | skip
      rename_i s pos'
      obtain ⟨rfl, h0, hs, hcode⟩ := k4
      have hsz := size_of_data hs
      cases hlt : Nat.blt pos' n with
      | true =>
        rw [hlt, cond_true] at ha; simp only [Option.some.injEq, Prod.mk.injEq] at ha
        obtain ⟨rfl, rfl⟩ := ha
        have hlt' : pos' < n := by simpa [Nat.blt_eq] using hlt
        have hdec := runeAt_eq hs hcode pos'
        obtain ⟨q1, q2⟩ := r.writeRow hb hL (set_one w L.blk (.stringIter s (pos' + (runeAt n a pos').2))) (set_at k3) (x' := .siter n a (pos' + (runeAt n a pos').2)) ⟨rfl, h0, hs, hcode⟩
        refine ⟨.tuple #[.bool true, goInt pos', .int .i32 (runeAt n a pos').1], β, _, ?_, .tuple (.cons (.bool _) (.cons (.int _ _) (.cons (.int _ _) .nil))), q1, q2⟩
        simp [Instr.next, h0, run_getIter k3, hsz, hlt', hdec, run_setIter k3]
      | false =>
        rw [hlt, cond_false] at ha; simp only [Option.some.injEq, Prod.mk.injEq] at ha
        obtain ⟨rfl, rfl⟩ := ha
        have hlt' : ¬ pos' < n := by
          intro e
          have : Nat.blt pos' n = true := by simpa [Nat.blt_eq] using e
          rw [this] at hlt; cases hlt
        exact ⟨.tuple #[.bool false], β, w, by simp [Instr.next, h0, run_getIter k3, hsz, hlt'], .tuple (.cons (.bool _) .nil), r, .refl _ _ _⟩
    · cases ha
  · cases ha

/-- Any piece that makes one block under the next number. -/
theorem new_rel (r : Rel E β h w) {w' : World} {x : Blk} {o : Obj} {sz : Nat} (hw : w'.heap = w.heap.push o) (h1 : w'.os = w.os) (h2 : w'.tape = w.tape) (h3 : w'.output = w.output)
    (hb : BlkR E.ρ (upd β h.next ⟨w.heap.size, 0, sz⟩) ⟨w.heap.size, 0, sz⟩ x o) :
    Rel E (upd β h.next ⟨w.heap.size, 0, sz⟩) (h.new x) w' ∧ Frm β h w (upd β h.next ⟨w.heap.size, 0, sz⟩) (h.new x) w' :=
  ⟨r.push (r.fresh _ (Nat.le_refl _)) hw (Nat.le_succ _) (Nat.lt_succ_self _) hb, Frm.push r hw h1 h2 h3⟩

theorem elemSlice_some {t e : TypeId} (he : elemSlice P t = some e) : P.underlying t = some (.slice e) := by
  unfold elemSlice und at he
  split at he
  · rename_i e' hu; simp only [Option.some.injEq] at he; subst he; exact hu
  · cases he

theorem makeSlice_sound (r : Rel E β h w) {t : TypeId} {l c v : AVal} {cl cc : Value} {h' : Hp} (ha : makeSliceA P h t l c = some (v, h')) (hl : VR E.ρ β l cl) (hc : VR E.ρ β c cc) :
    DoesV P E β h w (Instr.makeSlice t cl cc) v h' := by
  unfold makeSliceA at ha
  split at ha
  · rename_i e l c he
    cases hl; cases hc
    have hu := elemSlice_some he
    split at ha
    · rename_i size bytes z hsz hby hz
      cases hcnd : (z.isTuple || Nat.beq size 0 || !Nat.ble (c * bytes) room || !Nat.ble l c || !Nat.ble c (2 ^ 62) || !Nat.beq z.cells.length size) with
      | true => rw [hcnd] at ha; cases ha
      | false =>
        rw [hcnd, cond_false] at ha; simp only [Option.some.injEq, Prod.mk.injEq] at ha
        obtain ⟨rfl, rfl⟩ := ha
        simp only [Bool.or_eq_false_iff, Bool.not_eq_false'] at hcnd
        obtain ⟨⟨⟨⟨⟨c1, c2⟩, c3⟩, c4⟩, c5⟩, c6⟩ := hcnd
        have hs0 : 0 < size := by
          rcases Nat.eq_zero_or_pos size with e0 | e0
          · subst e0; simp at c2
          · exact e0
        have hroom := Nat.le_of_ble_eq_true c3
        have hlc := Nat.le_of_ble_eq_true c4
        have hc62 := Nat.le_of_ble_eq_true c5
        have hzl := Nat.eq_of_beq_eq_true c6
        obtain ⟨cz, ⟨i, hi, hiz⟩, hzr, hzv⟩ := zeroT_all (E := E) hz
        have hiby : i.bytes = bytes := by unfold bytesT at hby; rw [hi] at hby; simpa using hby
        have hx : Ext β (upd β h.next ⟨w.heap.size, 0, c * size⟩) := Ext.upd (r.fresh _ (Nat.le_refl _))
        obtain ⟨hvc, hone⟩ := (hzv (upd β h.next ⟨w.heap.size, 0, c * size⟩)).cells c1
        have hrep := repeat_VRs hvc hone c (by omega)
        rw [hzl] at hrep
        have hwl : IntKind.i64.wrap (Int.ofNat l) = l := wrap_toNat_small .i64 l (by rw [IntKind.max_i64]; omega)
        have hwc : IntKind.i64.wrap (Int.ofNat c) = c := wrap_toNat_small .i64 c (by rw [IntKind.max_i64]; omega)
        have hbig : ¬ ((bytes : Int) * (c : Int) > 2 ^ 48) := by
          have : ((c * bytes : Nat) : Int) ≤ 140737488355328 := by
            have hr : c * bytes ≤ 140737488355328 := hroom
            exact Int.ofNat_le.2 hr
          push_cast at this
          have e : (bytes : Int) * (c : Int) = (c : Int) * bytes := Int.mul_comm _ _
          omega
        have harr : (Array.range (c * size)).map ((if c * size = 0 then #[] else cz.cells)[· % (if c * size = 0 then (#[] : Array Value) else cz.cells).size]!) = (Array.range (c * size)).map (cz.cells[· % cz.cells.size]!) := by
          by_cases e0 : c * size = 0
          · apply Array.ext'; simp [e0]
          · rw [if_neg e0]
        have hblk : BlkR E.ρ (upd β h.next ⟨w.heap.size, 0, c * size⟩) ⟨w.heap.size, 0, c * size⟩ (.cells e (c * size) 0 (fillT (repeatL z.cells c) 0 .e)) (.cells ((Array.range (c * size)).map (cz.cells[· % cz.cells.size]!)) e) := by
          refine ⟨rfl, rfl, by simp, ?_, .inl rfl⟩
          have := cells_fill hrep.1 hrep.2
          rw [repeatL_length, hzl, Array.toArray_toList] at this
          exact this
        obtain ⟨q1, q2⟩ := new_rel r (w' := w.alloc (.cells ((Array.range (c * size)).map (cz.cells[· % cz.cells.size]!)) e)) rfl rfl rfl rfl hblk
        refine ⟨.slice (some ⟨w.heap.size, 0, none⟩) l c, _, _, ?_, .slice (upd_same _ _ _) hs0 hlc (Nat.le_refl _) (fun _ => rfl) (by simp), q1, q2⟩
        have hl0 : ¬ ((l : Int) < 0) := by omega
        have hc0 : ¬ ((c : Int) < 0) := by omega
        have hlc' : ¬ ((l : Int) > (c : Int)) := by omega
        have hisz : i.size = size := by unfold sizeT at hsz; rw [hi] at hsz; simpa using hsz
        have hbig' : ¬ (281474976710656 < (bytes : Int) * (c : Int)) := by omega
        have hlc'' : ¬ ((c : Int) < (l : Int)) := by omega
        by_cases e0 : c * size = 0
        · have e1 : (Array.range (c * size)).map (cz.cells[· % cz.cells.size]!) = #[] := by apply Array.ext'; simp [e0]
          have ec : c = 0 := by
            rcases Nat.eq_zero_or_pos c with e | e
            · exact e
            · have := Nat.mul_pos e hs0; omega
          rw [e1]
          subst ec
          have el : l = 0 := by omega
          subst el
          simp [Instr.makeSlice, run_underlying hu, asInt, asIntOf, sizeOf, typeInfo, hi, newRow, show IntKind.i64.wrap 0 = 0 from by decide, show Array.range 0 = #[] from rfl]
        · simp only [Int.ofNat_eq_natCast] at hwl hwc
          simp [Instr.makeSlice, run_underlying hu, asInt, asIntOf, sizeOf, typeInfo, hi, hwl, hwc, hiby, hisz, hbig', hl0, hc0, hlc'', e0, zeroValue, hiz, newRow]
    · cases ha
  · cases ha

theorem convE_sound (r : Rel E β h w) {src dst : TypeId} {x v : AVal} {cx : Value} {h' : Hp} (ha : convE P src dst h x = some (v, h')) (hx : VR E.ρ β x cx) : DoesV P E β h w (convert src dst cx) v h' := by
  unfold convE und at ha
  split at ha
  · rename_i e n a hs hd
    cases hx with | @str _ _ s h1 h2 =>
    split at ha
    · rename_i he
      cases hn62 : Nat.ble n (2 ^ 62) with
      | false => rw [hn62] at ha; cases ha
      | true =>
      rw [hn62, cond_true] at ha
      have hn62' := Nat.le_of_ble_eq_true hn62
      simp only [Option.some.injEq, Prod.mk.injEq] at ha
      obtain ⟨rfl, rfl⟩ := ha
      have hsz := size_of_data h1
      have hrun := Lib.run_convert_string_bytes (P := P) w src dst e s hs hd he
      have hge := grownCap_ge w s.size 0 e
      have hbc : (Lib.bytesCells w e s).size = grownCap w s.size 0 e := by
        simp only [Lib.bytesCells, Array.size_append, Array.size_map, Array.size_replicate]
        show s.size + _ = _
        omega
      have hnone : β h.next = none := r.fresh _ (Nat.le_refl _)
      -- first as if nothing were frozen
      have hcells : CellsR E.ρ (upd β h.next ⟨w.heap.size, 0, grownCap w s.size 0 e⟩) 0 n (fillT (bytesL n a) 0 .e) (Lib.bytesCells w e s) := by
        have h3 := bytesL_sound (E := E) (β := upd β h.next ⟨w.heap.size, 0, grownCap w s.size 0 e⟩) n a
        intro i v hi
        rw [get_fillT] at hi
        split at hi
        · rename_i hlt
          simp only [Nat.sub_zero] at hi
          obtain ⟨cv, e1, e2⟩ := h3.get hi
          have hin : i < n := by
            have := (List.getElem?_eq_some_iff.1 e1).1
            simpa using this
          refine ⟨hin, cv, ?_, e2, ?_⟩
          · simp only [Lib.bytesCells, Nat.zero_add]
            rw [Array.getElem?_append_left (by rw [Array.size_map]; show i < s.size; omega)]
            rw [← Array.getElem?_toList, Array.toList_map, h1]
            exact e1
          · have := List.mem_of_getElem? e1
            simp only [List.mem_map] at this
            obtain ⟨b, _, rfl⟩ := this
            rfl
        · simp at hi
      have hB : BlkR E.ρ (upd β h.next ⟨w.heap.size, 0, grownCap w s.size 0 e⟩) ⟨w.heap.size, 0, grownCap w s.size 0 e⟩ (.cells e n allFz (fillT (bytesL n a) 0 .e)) (.cells (Lib.bytesCells w e s) e) := ⟨rfl, rfl, hbc, hcells, .inl rfl⟩
      obtain ⟨q1, q2⟩ := new_rel r (w' := w.drew.alloc (.cells (Lib.bytesCells w e s) e)) rfl rfl rfl rfl hB
      have hat : (w.drew.alloc (.cells (Lib.bytesCells w e s) e)).heap[w.heap.size]? = some (.cells (Lib.bytesCells w e s) e (0, 0)) := by
        show (w.heap.push _)[w.heap.size]? = _
        simp
      have hgetn : (h.new (.cells e n allFz (fillT (bytesL n a) 0 .e))).get h.next = some (.cells e n allFz (fillT (bytesL n a) 0 .e)) := by rw [Hp.get_new, if_pos rfl]
      have hcapmax := grownCap_le_maxLen w s.size 0 e (by unfold maxLen; omega)
      obtain ⟨q3, q4⟩ := q1.writeRow hgetn (upd_same _ _ _) (freeze_one _ w.heap.size (Lib.bytesCells w e s).size 1) (freeze_at hat (by omega)) (x' := .cells e n allFz (fillT (bytesL n a) 0 .e)) ⟨rfl, rfl, hbc, hcells, by
        right
        unfold maxLen at hcapmax
        simp only [beq_self_eq_true, if_true, hbc, allFz]
        omega⟩
      have hput : (h.new (.cells e n allFz (fillT (bytesL n a) 0 .e))).put h.next (.cells e n allFz (fillT (bytesL n a) 0 .e)) = h.new (.cells e n allFz (fillT (bytesL n a) 0 .e)) := by
        simp only [Hp.put, Hp.new, T.set_set]
      rw [hput] at q3 q4
      refine ⟨_, _, _, hrun, ?_, q3, q2.trans q4⟩
      rw [hsz]
      exact .slice (upd_same _ _ _) (by omega) (Nat.le_refl _) (by rw [← hsz]; exact hge) (fun e => by cases e) (by simp)
    · cases ha
  · cases ha
end
end Go.Ae
