/- Operations that only read memory: the rest, and the one theorem. -/
import Derived.Test.YteginejafomfmaaGreatDoorAeRead
import Derived.Lib.Builder
import Derived.Laws.BytesString
set_option linter.unusedSimpArgs false
set_option linter.unusedVariables false
set_option maxHeartbeats 1000000
namespace Go.Ae
open Go

section
variable {P : Program} {E : Env} {β : Beta} {h : Hp} {w : World}

/-- Bytes in cells, as a text. -/
theorem natOfCells_sound : ∀ {l : List AVal} {vs : List Value} {k : Nat}, natOfCells l = some k → VRs E.ρ β l vs →
    ∃ bs : List UInt8, bs.length = l.length ∧ codeOf bs = k ∧ vs = (bs.map fun b => (b.toNat : Int)).map (Value.int .u8)
  | [], vs, k, hk, hr => by
    cases hr
    simp only [natOfCells, Option.some.injEq] at hk; subst hk
    exact ⟨[], rfl, rfl, rfl⟩
  | x :: l, vs, k, hk, hr => by
    cases hr with | @cons _ _ v vs hx hs =>
    unfold natOfCells at hk
    split at hk
    · rename_i hxl; cases hxl
    · rename_i n l' hxl
      cases hxl
      cases hx
      split at hk
      · rename_i b r hr'
        cases hb : Nat.blt b 256 with
        | false => rw [hb] at hk; cases hk
        | true =>
          rw [hb, cond_true] at hk; simp only [Option.some.injEq] at hk; subst hk
          have hlt : b < 256 := by simpa [Nat.blt_eq] using hb
          obtain ⟨bs, h1, h2, h3⟩ := natOfCells_sound hr' hs
          have hb8 : (UInt8.ofNat b).toNat = b := by rw [UInt8.toNat_ofNat']; exact Nat.mod_eq_of_lt hlt
          refine ⟨UInt8.ofNat b :: bs, by simp [h1], by simp only [codeOf]; rw [hb8, h2], ?_⟩
          simp only [List.map_cons, hb8, ← h3]
          rfl
      · cases hk
    · cases hk

theorem push_all : ∀ (bs : List UInt8) (r : ByteArray), ((bs.map fun b => (b.toNat : Int)).foldl (fun r n => r.push (UInt8.ofNat n.toNat)) r).data.toList = r.data.toList ++ bs
  | [], r => by simp
  | b :: bs, r => by
    simp only [List.map_cons, List.foldl_cons]
    rw [push_all bs]
    have : UInt8.ofNat ((b.toNat : Int).toNat) = b := by simp
    rw [this]
    simp [ByteArray.push]

theorem liesAt_one {e : TypeId} (hc : 0 < P.cellsOf e) (count : Nat) (hn : 1 ≤ count) : liesAt P P.depth e count 0 e 1 = true := by
  have hd : P.depth = (2 * (P.types.size + Made.depth) + 1) + 1 := rfl
  rw [hd]
  simp only [liesAt, Bool.or_eq_true]
  left
  rw [hd]
  have : P.cellsOf e ≠ 0 := by omega
  simp [rowAt, this, hn, sameLayout]

theorem head_sound (r : Rel E β h w) {b : Nat} {t : TypeId} {L : Loc} (hh : headIs P h b t = true) (hL : β b = some L) :
    0 < P.cellsOf t ∧ ∃ cells, w.shape? L.blk = some (t, cells) ∧ P.cellsOf t ≤ cells ∧ L.sh = 0 := by
  unfold headIs at hh
  split at hh
  · rename_i e ext fz c hb
    simp only [Bool.and_eq_true] at hh
    obtain ⟨⟨h1, h2⟩, h3⟩ := hh
    have := Nat.eq_of_beq_eq_true h1; subst this
    have hpos : 0 < P.cellsOf e := by simpa [Nat.blt_eq] using h2
    obtain ⟨h0, ca, fr, hw, hsz, hc, hfr⟩ := r.row hb hL
    refine ⟨hpos, ca.size, by simp [World.shape?, hw], ?_, h0⟩
    obtain ⟨v, hv⟩ := known_spec _ _ _ h3 (P.cellsOf e - 1) (by omega)
    obtain ⟨cv, e1, _, _⟩ := hc.at hv
    have := (Array.getElem?_eq_some_iff.1 e1).1
    omega
  · cases hh

theorem convR_sound (r : Rel E β h w) {src dst : TypeId} {x v : AVal} {cx : Value} (hc : convR P src dst h x = some v) (hx : VR E.ρ β x cx) : SaysAt P E β w (convert src dst cx) v := by
  unfold convR und at hc
  split at hc
  · rename_i e hs hd
    cases hx
    split at hc
    · rename_i hu
      simp only [Option.some.injEq] at hc; subst hc
      exact ⟨.string .empty, by simp [convert, run_underlying hs, run_underlying hd, run_underlying hu, Conv.bytesToString], .str rfl (by simp)⟩
    · cases hc
  · rename_i e b off len cap ex sz hs hd
    cases hx with | @slice _ _ _ _ _ c _ L hL hsz hl hcap he hz =>
    split at hc
    · rename_i e' ext fz t hu hb
      cases h1 : Nat.beq sz 1 with
      | false => rw [h1] at hc; cases hc
      | true =>
        rw [h1, cond_true] at hc
        cases hr : readT t len off with
        | none => rw [hr] at hc; cases hc
        | some l =>
          rw [hr] at hc; simp only [Option.bind_some] at hc
          cases hk : natOfCells l with
          | none => rw [hk] at hc; cases hc
          | some k =>
            rw [hk] at hc; simp only [Option.map_some, Option.some.injEq] at hc; subst hc
            obtain ⟨h0, ca, fr, hw, hsize, hcr, hfr⟩ := r.row hb hL
            obtain ⟨vs, e1, e2, e3, e4⟩ := read_cells hcr hr
            obtain ⟨bs, g1, g2, g3⟩ := natOfCells_sound hk e2
            subst g3
            have hlen : bs.length = len := by simpa using e1
            have hcells : (loadCells ⟨L.blk, L.sh + off, none⟩ len).run P w = .ok ((bs.map fun b => (b.toNat : Int)).map (Value.int .u8)).toArray w := by
              have := run_loadCells_list (P := P) w ⟨L.blk, L.sh + off, none⟩ ((bs.map fun b => (b.toNat : Int)).map (Value.int .u8)) fun j v hv => by rw [Addr.add_lit, cell_at hw]; exact e4 j v hv
              rw [e1] at this; exact this
            refine ⟨.string ((bs.map fun b => (b.toNat : Int)).foldl (fun r n => r.push (UInt8.ofNat n.toNat)) ByteArray.empty), ?_, .str ?_ ?_⟩
            · simp only [convert, run_underlying hs, run_underlying hd, run_underlying hu, Sem.run_bind, Result.andThen_ok]
              exact run_bytesToString w _ len c _ hcells
            · rw [push_all, ← g2, ← hlen, decode_codeOf]; rfl
            · rw [← g2, ← hlen]; exact codeOf_lt bs
    · cases hc
  · rename_i t b hs hd
    cases hx with | @ptr _ _ L hL =>
    split at hc
    · rename_i k hk
      cases hh : headIs P h b t with
      | false => rw [hh] at hc; cases hc
      | true =>
        rw [hh, cond_true] at hc; simp only [Option.some.injEq] at hc; subst hc
        obtain ⟨g1, cells, g2, g3, g4⟩ := head_sound r hh hL
        unfold sizeT at hk
        cases hi : P.info? t with
        | none => rw [hi] at hk; cases hk
        | some i =>
          rw [hi] at hk; simp only [Option.map_some, Option.some.injEq] at hk
          exact ⟨_, Lib.run_to_unsafe w _ hs hd hi (by omega) g2 (by simp only; omega), .ptr hL⟩
    · cases hc
  · rename_i t b hs hd
    cases hx with | @ptr _ _ L hL =>
    split at hc
    · rename_i k hk
      cases hh : headIs P h b t with
      | false => rw [hh] at hc; cases hc
      | true =>
        rw [hh, cond_true] at hc; simp only [Option.some.injEq] at hc; subst hc
        obtain ⟨g1, cells, g2, g3, g4⟩ := head_sound r hh hL
        unfold sizeT at hk
        cases hi : P.info? t with
        | none => rw [hi] at hk; cases hk
        | some i =>
          refine ⟨_, Lib.run_from_unsafe w _ hs hd hi g2 ?_, .ptr hL⟩
          simp only [g4, Nat.zero_add]
          exact liesAt_one g1 _ (Nat.div_pos g3 g1)
    · cases hc
  · cases hc

theorem eqPtr_sound (r : Rel E β h w) {t e : TypeId} {x y : AVal} {cx cy : Value} {b : Bool} (hu : P.underlying t = some (.pointer e)) (hb : eqPtr P h e x y = some b) (hx : VR E.ρ β x cx) (hy : VR E.ρ β y cy) (d : Nat) :
    (Op.equalIn (d + 1) t cx cy).run P w = .ok b w := by
  unfold eqPtr at hb
  split at hb
  · rename_i a i b' j
    cases hx with | @ptr _ _ L hL =>
    cases hy with | @ptr _ _ L' hL' =>
    split at hb
    · rename_i k hsz
      cases hab : Nat.beq a b' with
      | true =>
        exact eqA_sound (E := E) 1 (d + 1) t (.ptr a i) (.ptr b' j) _ _ b (by omega) (by simp only [eqA, und, hu, hsz, hab, cond_true]; rw [hab] at hb; exact hb) (.ptr hL) (.ptr hL') w
      | false =>
        rw [hab, cond_false] at hb
        split at hb
        · rename_i e1 x1 t1 e2 x2 t2 hb1 hb2
          simp only [Option.some.injEq] at hb; subst hb
          obtain ⟨h0, c1, f1, hw1, hs1, _, hf1⟩ := r.row hb1 hL
          obtain ⟨h0', c2, f2, hw2, hs2, _, hf2⟩ := r.row hb2 hL'
          have hne : L.blk ≠ L'.blk := fun e => by
            have := r.inj a b' _ _ L L' hb1 hb2 hL hL' e
            subst this; rw [Nat.beq_refl] at hab; cases hab
          have nf1 : ∀ o, w.frozen? ⟨L.blk, o, none⟩ = false := fun o => by
            simp only [World.frozen?, hw1]
            rcases hf1 with e | e
            · simp [e]
            · simp; omega
          have nf2 : ∀ o, w.frozen? ⟨L'.blk, o, none⟩ = false := fun o => by
            simp only [World.frozen?, hw2]
            rcases hf2 with e | e
            · simp [e]
            · simp; omega
          have sh1 : w.shape? L.blk = some (e1, c1.size) := by simp [World.shape?, hw1]
          have sh2 : w.shape? L'.blk = some (e2, c2.size) := by simp [World.shape?, hw2]
          simp [Op.equalIn, run_underlying hu, sizeT_sound hsz, sameAddr, hne, nf1, nf2, noView, viewAt, sh1, sh2, mayBeOne, stringish]
        · cases hb
    · cases hb
  · cases hx; cases hy; simp only [Option.some.injEq] at hb; subst hb; simp [Op.equalIn, run_underlying hu]
  · cases hx; cases hy; simp only [Option.some.injEq] at hb; subst hb; simp [Op.equalIn, run_underlying hu]
  · cases hx; cases hy; simp only [Option.some.injEq] at hb; subst hb; simp [Op.equalIn, run_underlying hu]
  · cases hb

theorem eqPtrOp_sound (r : Rel E β h w) {op : BinOp} {t : TypeId} {ox oy : Operand} {x y v : AVal} {cx cy : Value} (hb : eqPtrOp P h op t x y = some v) (hx : VR E.ρ β x cx) (hy : VR E.ρ β y cy) :
    SaysAt P E β w (do eqGuard op t ox oy cx cy; binOp op t cx cy) v := by
  unfold eqPtrOp und at hb
  split at hb
  · rename_i e hu
    have hpt : (∃ p, cx = .pointer p) ∧ (∃ q, cy = .pointer q) := by
      split at hb
      all_goals first
        | (cases hb; done)
        | (rename_i b hq
           unfold eqPtr at hq
           split at hq <;> first | (cases hq; done) | (cases hx; cases hy; exact ⟨⟨_, rfl⟩, ⟨_, rfl⟩⟩))
    obtain ⟨⟨p, rfl⟩, ⟨q, rfl⟩⟩ := hpt
    have hg : (eqGuard op t ox oy (.pointer p) (.pointer q)).run P w = .ok () w := by cases op <;> rfl
    split at hb
    · rename_i b hq
      simp only [Option.some.injEq] at hb; subst hb
      have := eqPtr_sound r hu hq hx hy 9999
      exact ⟨.bool b, by simp only [Sem.run_bind, hg, Result.andThen_ok, binOp, Op.equal, Op.maxDepth, this, Sem.run_pure], .bool _⟩
    · rename_i b hq
      simp only [Option.some.injEq] at hb; subst hb
      have := eqPtr_sound r hu hq hx hy 9999
      exact ⟨.bool !b, by simp only [Sem.run_bind, hg, Result.andThen_ok, binOp, Op.equal, Op.maxDepth, this, Sem.run_pure], .bool _⟩
    · cases hb
  · cases hb

theorem sliceArr_sound (r : Rel E β h w) {t : TypeId} {x v : AVal} {cx : Value} {lo hi mx : Option AVal} {clo chi cmx : Option Value} (hs : sliceArr P h t x lo hi mx = some v) (hx : VR E.ρ β x cx)
    (hlo : OptR E β lo clo) (hhi : OptR E β hi chi) (hmx : OptR E β mx cmx) : SaysAt P E β w (Instr.sliceAt t cx clo chi cmx) v := by
  unfold sliceArr und at hs
  split at hs
  · rename_i n e b off hu
    cases hx with | @ptr _ _ L hL =>
    split at hs
    · rename_i l h' m ex size e' ext fz c hb hsz hg
      cases hc : (Nat.beq (n * size) 0 || !known c (n * size) off) with
      | true => rw [hc] at hs; cases hs
      | false =>
        rw [hc, cond_false] at hs; simp only [Option.some.injEq] at hs; subst hs
        simp only [Bool.or_eq_false_iff, Bool.not_eq_false'] at hc
        have hnz : n * size ≠ 0 := fun e => by rw [e] at hc; simp at hc
        have hpos : 0 < size := by
          rcases Nat.eq_zero_or_pos size with e0 | e0
          · subst e0; simp at hnz
          · exact e0
        obtain ⟨g1, g2, m', g3, g4, g5, g6⟩ := bounds_sound (P := P) (isSlice := false) hb hlo hhi hmx (Nat.le_refl _) (Nat.le_refl _) (fun _ => rfl)
        obtain ⟨h0, ca, fr, hw, hsize, hcr, hfr⟩ := r.row hg hL
        have hex : ex = true := by
          unfold boundsA at hb
          cases hcnd : (mx.isSome && hi.isNone) with
          | true => rw [hcnd] at hb; cases hb
          | false =>
            rw [hcnd, cond_false] at hb
            split at hb
            · split at hb
              · split at hb
                · simp only [Option.some.injEq, Prod.mk.injEq, Bool.true_or] at hb; exact hb.2.2.2.symm
                · cases hb
              · cases hb
            · cases hb
        have hm : m' = m := g5 hex
        subst hm
        have hle : off + n * size ≤ L.sz := by
          obtain ⟨v, hv⟩ := known_spec _ _ _ hc.2 (n * size - 1) (by omega)
          obtain ⟨cv, e1, _, _⟩ := hcr.at hv
          have := (Array.getElem?_eq_some_iff.1 e1).1
          omega
        refine ⟨.slice (some ⟨L.blk, L.sh + (if m' = l then off else off + l * size), none⟩) (h' - l) (m' - l), ?_, .slice hL hpos (by omega) (Nat.le_refl _) (fun _ => rfl) ?_⟩
        · simp only [Instr.sliceAt, run_underlying hu, Sem.run_bind, Result.andThen_ok, Instr.sureAddr, g6, sizeT_sound hsz, Sem.run_pure]
          congr 3
          by_cases e1 : m' = l
          · rw [if_pos e1, if_pos e1]
          · rw [if_neg e1, if_neg e1, Addr.add_lit, Nat.add_assoc]
        · have h1 : (m' - l) * size + l * size = m' * size := by rw [← Nat.add_mul]; congr 1; omega
          have h2 : m' * size ≤ n * size := Nat.mul_le_mul_right _ g4
          rw [h0]
          by_cases e2 : m' = l
          · rw [if_pos e2]
            have : (m' - l) * size = 0 := by rw [e2]; simp
            omega
          · rw [if_neg e2]; omega
    · cases hs
  · cases hs

theorem lenMap_sound (r : Rel E β h w) {ts : Array TypeId} {ty : TypeId} {consts : Array Bool} {args : List AVal} {cargs : Array Value} {v : AVal} (hl : lenMap P h ts.toList args = some v) (hr : VRs E.ρ β args cargs.toList) :
    ∃ cv, (builtin .len ts ty consts cargs).run P w = .ok (.value cv) w ∧ VR E.ρ β v cv := by
  obtain ⟨tsl⟩ := ts
  obtain ⟨cl⟩ := cargs
  simp only at hl hr
  unfold lenMap und at hl
  split at hl
  · rename_i t tl b al
    cases hr with | @cons _ _ cx cl hx hs =>
    cases hx with | @map _ L hL =>
    split at hl
    · rename_i k e es clock hu hb
      simp only [Option.some.injEq] at hl; subst hl
      obtain ⟨ms, h1, h2, _⟩ := r.mapObj hb hL
      exact ⟨.int .i64 es.length, by simp [builtin, Builtin.len_, run_underlying hu, run_getMap h1, goInt, h2.length], .int _ _⟩
    · cases hl
  · rename_i t tl al
    cases hr with | @cons _ _ cx cl hx hs =>
    cases hx
    split at hl
    · rename_i k e hu
      simp only [Option.some.injEq] at hl; subst hl
      exact ⟨.int .i64 0, by simp [builtin, Builtin.len_, run_underlying hu, goInt], .int _ _⟩
    · cases hl
  · cases hl

theorem SaysAt.op {s : Sem Value} {v : AVal} (hs : SaysAt P E β w s v) : ∃ cv, (do Pure.pure (Next.value (← s)) : Sem Next).run P w = .ok (.value cv) w ∧ VR E.ρ β v cv :=
  let ⟨cv, hr, hv⟩ := hs
  ⟨cv, by simp [hr], hv⟩

variable {n : Nat} {fr : T AVal} {a : Act}
theorem read_sound (r : Rel E β h w) {o : Oper} {v : AVal} (hr : readOp P E.G fr h o = some v) (hf : FrR E β n fr a) : ∃ cv, (execOp a.eval o).run P w = .ok (.value cv) w ∧ VR E.ρ β v cv := by
  unfold readOp at hr
  split at hr <;> rename_i ho
  · -- load
    rename_i t x
    split at hr
    · rename_i g hx
      have hv := opdA_sound hf hx
      generalize hcx : a.eval x = cx at hv
      cases hv
      split at hr
      · rename_i ha
        obtain ⟨cv, h1, h2⟩ := (loadGlob_sound (P := P) r ha hr).op
        exact ⟨cv, by simp only [execOp, ho, hcx]; exact h1, h2⟩
      · cases hr
    · rename_i p _ hx
      obtain ⟨cv, h1, h2⟩ := (load_sound (P := P) r hr (opdA_sound hf hx)).op
      exact ⟨cv, by simp only [execOp, ho]; exact h1, h2⟩
    · cases hr
  · split at hr
    · rename_i hx hy
      obtain ⟨cv, h1, h2⟩ := (lookup_sound (P := P) r hr (opdA_sound hf hx) (opdA_sound hf hy)).op
      exact ⟨cv, by simp only [execOp, ho]; exact h1, h2⟩
    · cases hr
  · split at hr
    · rename_i hx
      obtain ⟨cv, h1, h2⟩ := (convR_sound (P := P) r hr (opdA_sound hf hx)).op
      exact ⟨cv, by simp only [execOp, ho]; exact h1, h2⟩
    · cases hr
  · split at hr
    · rename_i hx hy
      obtain ⟨cv, h1, h2⟩ := (eqPtrOp_sound (P := P) r hr (opdA_sound hf hx) (opdA_sound hf hy)).op
      exact ⟨cv, by simp only [execOp, ho]; exact h1, h2⟩
    · cases hr
  · split at hr
    · rename_i h1 h2 h3 h4
      obtain ⟨cv, g1, g2⟩ := (sliceArr_sound (P := P) r hr (opdA_sound hf h1) (opt_sound hf h2) (opt_sound hf h3) (opt_sound hf h4)).op
      exact ⟨cv, by simp only [execOp, ho]; exact g1, g2⟩
    · cases hr
  · rename_i c
    split at hr
    · rename_i hcb
      split at hr
      · rename_i args hargs
        have hvs := opdsA_sound hf hargs
        obtain ⟨cv, g1, g2⟩ := lenMap_sound (P := P) r (ts := c.argTypes) (ty := o.type) (consts := c.args.map fun | .const _ => true | _ => false) (cargs := c.args.map a.eval) hr (by simpa using hvs)
        exact ⟨cv, by simp only [execOp, ho, resolve, hcb, Sem.run_bind, Sem.run_pure, Result.andThen_ok, invoke]; exact g1, g2⟩
      · cases hr
    · cases hr
  · cases hr
end
end Go.Ae
