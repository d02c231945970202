/- append. -/
import Derived.Test.YteginejafomfmaaGreatDoorAeEff
set_option linter.unusedSimpArgs false
set_option linter.unusedVariables false
set_option maxHeartbeats 1000000
namespace Go.Ae
open Go

section
variable {P : Program} {E : Env} {β : Beta} {h : Hp} {w : World}

/-- The cells of what is appended or copied. -/
structure Src (P : Program) (E : Env) (β : Beta) (w : World) (size n : Nat) (l : List AVal) (cx : Value) (vs : List Value) : Prop where
  run : (Builtin.firstCells size n cx).run P w = .ok vs.toArray w
  rel : VRs E.ρ β l vs
  one : ∀ u ∈ vs, u.oneCell' = true
  len : vs.length = n * size

theorem bytesL_sound : ∀ (n c : Nat), VRs E.ρ β (bytesL n c) ((decode n c).map fun b => Value.int .u8 b.toNat)
  | 0, c => .nil
  | n + 1, c => by
    simp only [bytesL, decode, List.map_cons]
    refine .cons ?_ (bytesL_sound n (c / 256))
    have hb8 : (UInt8.ofNat (c % 256)).toNat = c % 256 := by rw [UInt8.toNat_ofNat']; exact Nat.mod_eq_of_lt (Nat.mod_lt _ (by omega))
    rw [hb8]
    exact .int _ _

theorem src_sound (r : Rel E β h w) {size n : Nat} {x : AVal} {l : List AVal} {cx : Value} (hc : cellsOfA h size n x = some l) (hx : VR E.ρ β x cx) (hn : n ≤ (lenA x).getD 0) : ∃ vs, Src P E β w size n l cx vs := by
  unfold cellsOfA at hc
  split at hc
  · rename_i b off len cap ex sz
    cases hx with | @slice _ _ _ _ _ c _ L hL hs hl hcap he hz =>
    cases h1 : Nat.beq sz size with
    | false => rw [h1] at hc; cases hc
    | true =>
      rw [h1, cond_true] at hc
      split at hc
      · rename_i e ext fz t hb
        obtain ⟨h0, ca, f, hw, hsize, hcr, hfr⟩ := r.row hb hL
        obtain ⟨vs, e1, e2, e3, e4⟩ := read_cells hcr hc
        refine ⟨vs, ?_, e2, e3, e1⟩
        have := run_firstCells_some (P := P) w size n ⟨L.blk, L.sh + off, none⟩ len c vs e1 fun j v hv => by rw [Addr.add_lit, cell_at hw]; exact e4 j v hv
        exact this
      · cases hc
  · cases hx
    cases h1 : Nat.beq n 0 with
    | false => rw [h1] at hc; cases hc
    | true =>
      rw [h1, cond_true] at hc; simp only [Option.some.injEq] at hc; subst hc
      have := Nat.eq_of_beq_eq_true h1; subst this
      exact ⟨[], rfl, .nil, by simp, by simp⟩
  · rename_i k c
    cases hx with | @str _ _ s h1 h2 =>
    cases h3 : Nat.beq size 1 with
    | false => rw [h3] at hc; cases hc
    | true =>
      rw [h3, cond_true] at hc; simp only [Option.some.injEq] at hc; subst hc
      have := Nat.eq_of_beq_eq_true h3; subst this
      simp only [lenA, Option.getD_some] at hn
      refine ⟨(decode n c).map fun b => Value.int .u8 b.toNat, ?_, bytesL_sound n c, fun u hu => ?_, by simp⟩
      · have he : (s.extract 0 n).data.toList = decode n c := by
          rw [Lib.extract_data, h1, List.drop_zero, Nat.sub_zero, decode_take _ _ _ hn]
        simp only [Builtin.firstCells, Sem.run_pure]
        congr 1
        apply Array.ext'
        rw [Array.toList_map, he]
      · simp only [List.mem_map] at hu
        obtain ⟨b, _, rfl⟩ := hu
        rfl
  · cases hc

theorem lenA_sound {x : AVal} {cx : Value} {m : Nat} (hl : lenA x = some m) (hx : VR E.ρ β x cx) (w : World) : (Builtin.lenOf cx).run P w = .ok m w := by
  unfold lenA at hl
  split at hl
  · cases hx; simp only [Option.some.injEq] at hl; subst hl; rfl
  · cases hx; simp only [Option.some.injEq] at hl; subst hl; rfl
  · cases hx with | @str _ _ s h1 h2 => 
    simp only [Option.some.injEq] at hl; subst hl
    simp [Builtin.lenOf, size_of_data h1]
  · cases hl

/-- append where there is room. -/
theorem run_append_in {t xt ty e : TypeId} {td : TypeDesc} {i : TypeInfo} (ht : P.underlying t = some (.slice e)) (hxt : P.underlying xt = some td) (hnot : ∀ k, td ≠ .int k) (hi : P.info? e = some i)
    {base : Option Addr} {sLen sCap m : Nat} {cx : Value} {vs : List Value} (hlen : (Builtin.lenOf cx).run P w = .ok m w) (hfc : (Builtin.firstCells i.size m cx).run P w = .ok vs.toArray w) (hroom : sLen + m ≤ sCap) :
    (Builtin.append_ #[t, xt] ty #[.slice base sLen sCap, cx]).run P w = ((match base with
      | some a => (storeCells (a.add (sLen * i.size)) vs).run P w
      | none => .ok () w).andThen fun _ w' => .ok (.slice base (sLen + m) sCap) w') := by
  cases base <;> simp [Builtin.append_, run_underlying ht, sizeOf, typeInfo, hi, hlen, hroom, hfc, run_underlying hxt]

/-- append where there is none: a new row. -/
theorem run_append_out {t xt ty e : TypeId} {td : TypeDesc} {i : TypeInfo} {z : Value} (ht : P.underlying t = some (.slice e)) (hxt : P.underlying xt = some td) (hnot : ∀ k, td ≠ .int k) (hi : P.info? e = some i) (hz : i.zero = some z)
    {base : Option Addr} {sLen sCap m : Nat} {cx : Value} {vs olds : List Value} (hlen : (Builtin.lenOf cx).run P w = .ok m w) (hold : (Builtin.firstCells i.size sLen (.slice base sLen sCap)).run P w.drew = .ok olds.toArray w.drew)
    (hfc : (Builtin.firstCells i.size m cx).run P w.drew = .ok vs.toArray w.drew) (hroom : sCap < sLen + m) (hb : 0 < i.bytes) (hfit : (sLen + m) * i.bytes ≤ 140737488355328) :
    (Builtin.append_ #[t, xt] ty #[.slice base sLen sCap, cx]).run P w = .ok (.slice (some ⟨w.heap.size, 0, none⟩) (sLen + m) (grownCap w (sLen + m) sCap e))
      (w.drew.alloc (.cells (olds.toArray ++ vs.toArray ++ Builtin.zeroCells z.cells (grownCap w (sLen + m) sCap e - (sLen + m))) e)) := by
  have h1 : ¬ sLen + m ≤ sCap := by omega
  have h2 := growslice_fits hroom hfit
  have h3 : ¬ Builtin.nextslicecap (sLen + m) sCap * i.bytes > 2 ^ 48 := by omega
  have h5 : i.bytes ≠ 0 := by omega
  have h4 : ¬ (((sLen + m : Nat) : Int) > IntKind.i64.max ∧ (False ∨ i.bytes = 0)) := by simp [h5]
  have hf : (Question.appendCap (sLen + m) sCap e).forced = false := rfl
  have h6 : ¬ (281474976710656 < Builtin.nextslicecap (sLen + m) sCap * i.bytes) := by omega
  simp [Builtin.append_, run_underlying ht, sizeOf, typeInfo, zeroValue, hi, hz, hlen, run_underlying hxt, h1, h5, h6, Question.forced, hold, hfc, newRow, grownCap]
  congr 2
  apply Array.ext'
  simp [List.append_assoc]

/-- The cells of a row's head, known and unknown. -/
theorem head_cells {ρ : Nat → Value} {ext off n : Nat} {t t' : T AVal} {c : Array Value} (hc : CellsR ρ β 0 ext t c) (hh : headT t ext off n = some t') (hin : off + n ≤ c.size) :
    ∀ i v, t'.get i = some v → i < n ∧ ∃ cv, ((c.toList.drop off).take n)[i]? = some cv ∧ VR ρ β v cv ∧ cv.oneCell' = true := by
  intro i v hi
  unfold headT at hh
  cases hcnd : (Nat.beq off 0 && Nat.ble ext n) with
  | true =>
    rw [hcnd, cond_true] at hh; simp only [Option.some.injEq] at hh; subst hh
    simp only [Bool.and_eq_true] at hcnd
    have e0 := Nat.eq_of_beq_eq_true hcnd.1
    have e1 := Nat.le_of_ble_eq_true hcnd.2
    subst e0
    obtain ⟨g1, cv, g2, g3, g4⟩ := hc i v hi
    refine ⟨by omega, cv, ?_, g3, g4⟩
    rw [List.getElem?_take, if_pos (by omega)]
    simpa using g2
  | false =>
    rw [hcnd, cond_false] at hh
    cases hr : readT t n off with
    | none => rw [hr] at hh; cases hh
    | some l =>
      rw [hr] at hh; simp only [Option.map_some, Option.some.injEq] at hh; subst hh
      obtain ⟨h1, h2⟩ := readT_some n off t l hr
      rw [get_fillT] at hi
      split at hi
      · rename_i hlt
        simp only [Nat.sub_zero] at hi
        have hi' : i < n := by omega
        have hg := h2 i hi'
        rw [hi] at hg
        obtain ⟨_, cv, g2, g3, g4⟩ := hc _ _ hg
        refine ⟨hi', cv, ?_, g3, g4⟩
        rw [List.getElem?_take, if_pos hi', List.getElem?_drop]
        simpa using g2
      · simp at hi

/-- The new row of an append: the head, what is new behind it, and spare room. -/
theorem grown_cells {ρ : Nat → Value} {n : Nat} {t' : T AVal} {olds news rest : List Value} {l : List AVal} (ho : olds.length = n)
    (hh : ∀ i v, t'.get i = some v → i < n ∧ ∃ cv, olds[i]? = some cv ∧ VR ρ β v cv ∧ cv.oneCell' = true) (hr : VRs ρ β l news) (h1 : ∀ u ∈ news, u.oneCell' = true) :
    CellsR ρ β 0 (n + l.length) (fillT l n t') (olds ++ news ++ rest).toArray := by
  have hl := hr.length
  intro i v hi
  rw [get_fillT] at hi
  split at hi
  · rename_i hlt
    obtain ⟨cv, e1, e2⟩ := hr.get hi
    refine ⟨by omega, cv, ?_, e2, h1 cv (List.mem_of_getElem? e1)⟩
    simp only [Nat.zero_add, List.getElem?_toArray]
    rw [List.getElem?_append_left (by simp; omega), List.getElem?_append_right (by omega), ho]
    exact e1
  · obtain ⟨g1, cv, g2, g3, g4⟩ := hh i v hi
    refine ⟨by omega, cv, ?_, g3, g4⟩
    simp only [Nat.zero_add, List.getElem?_toArray]
    rw [List.getElem?_append_left (by simp; omega), List.getElem?_append_left (by omega)]
    exact g2

theorem Frm.drew : Frm β h w β h w.drew := Frm.of_heap rfl rfl rfl rfl

/-- A new row behind an append, on both sides. -/
theorem grown_rel (r : Rel E β h w) {e : TypeId} {size need n : Nat} {t' : T AVal} {olds vs : List Value} {new : List AVal} {z : Value} {cap fz : Nat} (ho : olds.length = n)
    (hh : ∀ β', Ext β β' → ∀ i v, t'.get i = some v → i < n ∧ ∃ cv, olds[i]? = some cv ∧ VR E.ρ β' v cv ∧ cv.oneCell' = true) (hr : VRs E.ρ β new vs) (h1 : ∀ u ∈ vs, u.oneCell' = true)
    (hz : z.cells.size = size) (hs0 : 0 < size) (hn : n + vs.length = need * size) (hcap : need ≤ cap) :
    ∃ β', VR E.ρ β' (.slice h.next 0 need need false size) (.slice (some ⟨w.heap.size, 0, none⟩) need cap) ∧
      Rel E β' (h.new (.cells e (need * size) fz (fillT new n t'))) (w.drew.alloc (.cells (olds.toArray ++ vs.toArray ++ Builtin.zeroCells z.cells (cap - need)) e)) ∧
      Frm β h w β' (h.new (.cells e (need * size) fz (fillT new n t'))) (w.drew.alloc (.cells (olds.toArray ++ vs.toArray ++ Builtin.zeroCells z.cells (cap - need)) e)) := by
  have hnone : β h.next = none := r.fresh _ (Nat.le_refl _)
  have harr : olds.toArray ++ vs.toArray ++ Builtin.zeroCells z.cells (cap - need) = (olds ++ vs ++ (Builtin.zeroCells z.cells (cap - need)).toList).toArray := by
    apply Array.ext'; simp
  have hsz : (olds.toArray ++ vs.toArray ++ Builtin.zeroCells z.cells (cap - need)).size = cap * size := by
    simp only [Array.size_append, List.size_toArray, size_zeroCells, hz, ho]
    rw [hn, ← Nat.add_mul]; congr 1; omega
  have hnl : new.length = vs.length := hr.length
  refine ⟨upd β h.next ⟨w.heap.size, 0, cap * size⟩, .slice (upd_same _ _ _) hs0 (Nat.le_refl _) hcap (fun e => by cases e) (by simp), ?_, ?_⟩
  · refine r.push (id := h.next) (next := h.next + 1) hnone rfl (Nat.le_succ _) (Nat.lt_succ_self _) ⟨rfl, rfl, hsz, ?_, .inl rfl⟩
    rw [harr]
    have hx : Ext β (upd β h.next ⟨w.heap.size, 0, cap * size⟩) := Ext.upd hnone
    have := grown_cells (rest := (Builtin.zeroCells z.cells (cap - need)).toList) ho (hh _ hx) (hr.mono hx) h1
    rw [hnl, hn] at this
    exact this
  · exact Frm.push r rfl rfl rfl rfl

theorem append_sound (r : Rel E β h w) {t xt ty : TypeId} {s x v : AVal} {cs cx : Value} {h' : Hp} (ha : appendOp P t xt s x h = some (v, h')) (hs : VR E.ρ β s cs) (hx : VR E.ρ β x cx) :
    ∃ cv β' w', (Builtin.append_ #[t, xt] ty #[cs, cx]).run P w = .ok cv w' ∧ VR E.ρ β' v cv ∧ Rel E β' h' w' ∧ Frm β h w β' h' w' := by
  unfold appendOp und at ha
  split at ha
  · cases ha
  · rename_i e td hnot ht hxt
    split at ha
    · rename_i size bytes m hsz hby hlx
      split at ha
      · rename_i new hcs
        cases hzz : zeroT P e with
        | none => rw [hzz] at ha; cases ha
        | some zz =>
        rw [hzz] at ha; simp only at ha
        cases hzc : (!zz.isTuple && Nat.beq zz.cells.length size) with
        | false => rw [hzc] at ha; cases ha
        | true =>
        rw [hzc, cond_true] at ha
        simp only [Bool.and_eq_true, Bool.not_eq_true'] at hzc
        obtain ⟨z, ⟨i, hi, hiz⟩, _, hzv⟩ := zeroT_all (E := E) hzz
        have hzs : z.cells.size = size := by
          have := ((hzv β).cells hzc.1).1.length
          rw [Nat.eq_of_beq_eq_true hzc.2] at this; simpa using this.symm
        have hisz : i.size = size := by unfold sizeT at hsz; rw [hi] at hsz; simpa using hsz
        have hiby : i.bytes = bytes := by unfold bytesT at hby; rw [hi] at hby; simpa using hby
        obtain ⟨vs0, hsrc0⟩ := src_sound (P := P) r hcs hx (by rw [hlx]; simp)
        have hdrew : Rel E β h w.drew := r.of_heap rfl
        obtain ⟨vs, hsrc⟩ := src_sound (P := P) hdrew hcs hx (by rw [hlx]; simp)
        have hlen := lenA_sound (P := P) hlx hx w
        have hnl : new.length = m * size := by rw [hsrc.rel.length]; exact hsrc.len
        have hnot' : ∀ k, td ≠ .int k := fun k e => hnot k e
        unfold appendA at ha
        cases hc0 : (Nat.beq size 0 || Nat.beq bytes 0) with
        | true => rw [hc0] at ha; cases ha
        | false =>
        rw [hc0, cond_false] at ha
        simp only [Bool.or_eq_false_iff] at hc0
        have hs0 : 0 < size := by
          rcases Nat.eq_zero_or_pos size with e0 | e0
          · subst e0; simp at hc0
          · exact e0
        have hb0 : 0 < bytes := by
          rcases Nat.eq_zero_or_pos bytes with e0 | e0
          · subst e0; simp at hc0
          · exact e0
        split at ha
        · -- nil
          cases hs
          cases hm : Nat.beq m 0 with
          | true =>
            rw [hm, cond_true] at ha; simp only [Option.some.injEq, Prod.mk.injEq] at ha
            obtain ⟨rfl, rfl⟩ := ha
            have hm0 := Nat.eq_of_beq_eq_true hm; subst hm0
            exact ⟨.slice none 0 0, β, w, run_append_in ht hxt hnot' hi hlen (by rw [hisz]; exact hsrc0.run) (by omega), .nilslice, r, .refl _ _ _⟩
          | false =>
            rw [hm, cond_false] at ha
            have hm0 : m ≠ 0 := fun e => by rw [e] at hm; cases hm
            cases hle : Nat.ble (m * bytes) room with
            | false => rw [hle] at ha; cases ha
            | true =>
              rw [hle, cond_true] at ha; simp only [Option.some.injEq, Prod.mk.injEq] at ha
              obtain ⟨rfl, rfl⟩ := ha
              have hle' := Nat.le_of_ble_eq_true hle
              have hrun := run_append_out (P := P) (w := w) (ty := ty) (olds := []) ht hxt hnot' hi hiz (base := none) (sLen := 0) (sCap := 0) hlen (by simp [Builtin.firstCells]) (by rw [hisz]; exact hsrc.run) (by omega) (by omega) (by rw [hiby]; simpa [room] using hle')
              have hge := grownCap_ge w (0 + m) 0 e
              simp only [Nat.zero_add] at hrun hge
              obtain ⟨β', g1, g2, g3⟩ := grown_rel r (e := e) (need := m) (olds := []) (n := 0) (t' := .e) (fz := 0) rfl (fun _ _ i v hi => by simp at hi) hsrc.rel hsrc.one hzs hs0 (by simpa using hsrc.len) hge
              exact ⟨_, β', _, hrun, g1, g2, g3⟩
        · -- a row
          rename_i b off len cap exact sz
          cases hs with | @slice _ _ _ _ _ c _ L hL hsz0 hl hcap hex hz =>
          cases hsq : Nat.beq sz size with
          | false => rw [hsq] at ha; cases ha
          | true =>
          rw [hsq, cond_true] at ha
          have := Nat.eq_of_beq_eq_true hsq; subst this
          split at ha
          · rename_i eb ext fz tr hb
            obtain ⟨h0, ca, f, hw, hsize, hcr, hfr⟩ := r.row hb hL
            cases hrm : Nat.ble (len + m) cap with
            | true =>
              rw [hrm, cond_true] at ha
              have hrm' := Nat.le_of_ble_eq_true hrm
              cases hfz : Nat.ble fz (off + len * sz) with
              | false => rw [hfz] at ha; cases ha
              | true =>
                rw [hfz, cond_true] at ha; simp only [Option.some.injEq, Prod.mk.injEq] at ha
                obtain ⟨rfl, rfl⟩ := ha
                have hfz' := Nat.le_of_ble_eq_true hfz
                have hin : L.sh + off + len * sz + m * sz ≤ ca.size := by
                  have : (len + m) * sz ≤ c * sz := Nat.mul_le_mul_right _ (by omega)
                  rw [Nat.add_mul] at this; omega
                obtain ⟨w', cur', k1, k2, k3, k4, k5⟩ := run_storeRow (P := P) L.blk (L.sh + off + len * sz) eb f vs0 0 ca w hw (by rcases hfr with e | e; exact .inl e; exact .inr (by omega)) (by rw [hsrc0.len]; omega) hsrc0.one
                have hrun := run_append_in (P := P) (w := w) (ty := ty) ht hxt hnot' hi (base := some ⟨L.blk, L.sh + off, none⟩) (sLen := len) (sCap := c) hlen (by rw [hisz]; exact hsrc0.run) (by omega)
                simp only [Addr.add_lit, hisz, k1, Result.andThen_ok] at hrun
                obtain ⟨q1, q2⟩ := r.writeRow hb hL k5 k2 (x' := .cells eb (Nat.max ext (off + len * sz + m * sz)) fz (fillT new (off + len * sz) tr)) ⟨h0, rfl, by omega, by
                  refine cells_write hcr hsrc0.rel hsrc0.one (fun k => ?_) (Nat.le_max_left _ _) (by rw [hnl]; exact Nat.le_max_right _ _)
                  have := k4 k
                  rw [Nat.add_zero] at this
                  rw [this, Nat.add_assoc L.sh off], hfr⟩
                exact ⟨_, β, w', hrun, .slice hL hs0 hrm' hcap hex hz, q1, q2⟩
            | false =>
              rw [hrm, cond_false] at ha
              have hrm' : ¬ len + m ≤ cap := fun e => by rw [Nat.ble_eq_true_of_le e] at hrm; cases hrm
              cases hc1 : (Nat.ble ((len + m) * bytes) room && Nat.beq eb e) with
              | false => rw [hc1] at ha; cases ha
              | true =>
                rw [hc1, cond_true] at ha
                simp only [Bool.and_eq_true] at hc1
                have hfit := Nat.le_of_ble_eq_true hc1.1
                have := Nat.eq_of_beq_eq_true hc1.2; subst this
                have hlz : len * sz ≤ c * sz := Nat.mul_le_mul_right _ (by omega)
                split at ha
                · rename_i t' hht
                  -- the elder cells
                  have holds : ∀ w2 : World, w2.heap = w.heap → (Builtin.firstCells i.size len (.slice (some ⟨L.blk, L.sh + off, none⟩) len c)).run P w2 = .ok ((ca.toList.drop off).take (len * sz)).toArray w2 := by
                    intro w2 hw2
                    refine run_firstCells_some (P := P) w2 i.size len ⟨L.blk, L.sh + off, none⟩ len c _ (by rw [hisz]; simp; omega) fun j v hv => ?_
                    have hw' : w2.heap[L.blk]? = some (.cells ca eb f) := by rw [hw2]; exact hw
                    rw [Addr.add_lit, cell_at hw']
                    rw [List.getElem?_take] at hv
                    split at hv
                    · rw [List.getElem?_drop] at hv
                      rw [h0, Nat.zero_add]; simpa using hv
                    · cases hv
                  have hlo : ((ca.toList.drop off).take (len * sz)).length = len * sz := by simp; omega
                  have hcr0 : CellsR E.ρ β 0 ext tr ca := by rw [← h0]; exact hcr
                  have hhead : ∀ β', Ext β β' → ∀ i v, t'.get i = some v → i < len * sz ∧ ∃ cv, ((ca.toList.drop off).take (len * sz))[i]? = some cv ∧ VR E.ρ β' v cv ∧ cv.oneCell' = true :=
                    fun β' hx' => head_cells (hcr0.mono hx') hht (by omega)
                  -- where there is no room
                  have hgrow : ∀ (hk : Hp), Rel E β hk w → c < len + m → hk.next = h.next → ∀ fz', ∃ cv β' w', (Builtin.append_ #[t, xt] ty #[.slice (some ⟨L.blk, L.sh + off, none⟩) len c, cx]).run P w = .ok cv w' ∧
                      VR E.ρ β' (.slice h.next 0 (len + m) (len + m) false sz) cv ∧ Rel E β' (hk.new (.cells eb ((len + m) * sz) fz' (fillT new (len * sz) t'))) w' ∧ Frm β hk w β' (hk.new (.cells eb ((len + m) * sz) fz' (fillT new (len * sz) t'))) w' := by
                    intro hk rk hlt hnx fz'
                    have hrun := run_append_out (P := P) (w := w) (ty := ty) ht hxt hnot' hi hiz (base := some ⟨L.blk, L.sh + off, none⟩) (sLen := len) (sCap := c) hlen (holds w.drew rfl) (by rw [hisz]; exact hsrc.run) hlt (by omega) (by rw [hiby]; simpa [room] using hfit)
                    obtain ⟨β', g1, g2, g3⟩ := grown_rel rk (e := eb) (need := len + m) (n := len * sz) (t' := t') (fz := fz') hlo hhead hsrc.rel hsrc.one hzs hs0 (by rw [hsrc.len, Nat.add_mul]) (grownCap_ge w (len + m) c eb)
                    exact ⟨_, β', _, hrun, by rw [← hnx]; exact g1, g2, g3⟩
                  cases hex' : exact with
                  | true =>
                    rw [hex', cond_true] at ha; simp only [Option.some.injEq, Prod.mk.injEq] at ha
                    obtain ⟨rfl, rfl⟩ := ha
                    have := hex hex'
                    exact hgrow h r (by omega) rfl 0
                  | false =>
                    rw [hex', cond_false] at ha
                    cases hc2 : (Nat.ble fz (len * sz) && Nat.beq off 0) with
                    | false => rw [hc2] at ha; cases ha
                    | true =>
                      rw [hc2, cond_true] at ha; simp only [Option.some.injEq, Prod.mk.injEq] at ha
                      obtain ⟨rfl, rfl⟩ := ha
                      simp only [Bool.and_eq_true] at hc2
                      have hfz' := Nat.le_of_ble_eq_true hc2.1
                      have hoff := Nat.eq_of_beq_eq_true hc2.2
                      subst hoff
                      by_cases hin : len + m ≤ c
                      · -- in its place
                        have hle2 : L.sh + 0 + len * sz + m * sz ≤ ca.size := by
                          have : (len + m) * sz ≤ c * sz := Nat.mul_le_mul_right _ hin
                          rw [Nat.add_mul] at this; omega
                        obtain ⟨w', cur', k1, k2, k3, k4, k5⟩ := run_storeRow (P := P) L.blk (L.sh + 0 + len * sz) eb f vs0 0 ca w hw (by rcases hfr with e | e; exact .inl e; exact .inr (by omega)) (by rw [hsrc0.len]; omega) hsrc0.one
                        have hrun := run_append_in (P := P) (w := w) (ty := ty) ht hxt hnot' hi (base := some ⟨L.blk, L.sh + 0, none⟩) (sLen := len) (sCap := c) hlen (by rw [hisz]; exact hsrc0.run) hin
                        simp only [Addr.add_lit, hisz, k1, Result.andThen_ok] at hrun
                        have hnone : β h.next = none := r.fresh _ (Nat.le_refl _)
                        have hB : BlkR E.ρ (upd β h.next ⟨L.blk, L.sh + 0, L.sz⟩) ⟨L.blk, L.sh + 0, L.sz⟩ (.cells eb ((len + m) * sz) fz (fillT new (len * sz) t')) (.cells cur' eb f) := by
                          refine ⟨by simp [h0], rfl, by simp only; omega, ?_, by simpa using hfr⟩
                          have hpart : CellsR E.ρ (upd β h.next ⟨L.blk, L.sh + 0, L.sz⟩) (L.sh + 0) (len * sz) t' ca := by
                            intro i v hi
                            obtain ⟨q1, cv, q2, q3, q4⟩ := hhead _ (Ext.upd hnone) i v hi
                            refine ⟨q1, cv, ?_, q3, q4⟩
                            rw [List.getElem?_take, if_pos q1, List.drop_zero] at q2
                            have e0 : L.sh + 0 + i = i := by omega
                            rw [e0]
                            simpa using q2
                          refine cells_write hpart (hsrc0.rel.mono (Ext.upd hnone)) hsrc0.one (fun k => ?_) (by rw [Nat.add_mul]; omega) (by rw [hnl, Nat.add_mul]; omega)
                          have := k4 k
                          rw [Nat.add_zero (L.sh + 0 + len * sz)] at this
                          exact this
                        exact ⟨_, upd β h.next ⟨L.blk, L.sh + 0, L.sz⟩, w', hrun, .slice (upd_same _ _ _) hs0 (Nat.le_refl _) hin (fun e => by cases e) hz,
                          r.move hb hL k5.other k5.size k2 hB, Frm.move r hb hL k5.other k5.size k5.os k5.tape k5.output⟩
                      · obtain ⟨cv, β', w', q1, q2, q3, q4⟩ := hgrow (h.kill b) (r.kill b) (by omega) rfl fz
                        exact ⟨cv, β', w', q1, q2, q3, (Frm.kill b).trans q4⟩
                · cases ha
          · cases ha
        · cases ha
      · cases ha
    · cases ha
  · cases ha
end
end Go.Ae
