/- Operations that only read memory. -/
import Derived.Test.YtmkeapfgondiiaaGreatDoorEvB
import Derived.Laws.Cells
import Derived.Lib.Builder
import Derived.Laws.BytesString
import Derived.Great.BuildSlice
set_option linter.unusedSimpArgs false
set_option linter.unusedVariables false
set_option maxHeartbeats 1000000
namespace Go.Ae
open Go

section
variable {P : Program} {E : Env} {β : Beta} {h : Hp} {w : World}

/-- A row of the model's, behind an abstract block of cells. -/
theorem Rel.row (r : Rel E β h w) {b : Nat} {L : Loc} {e : TypeId} {ext fz : Nat} {t : T AVal} (hb : h.get b = some (.cells e ext fz t)) (hL : β b = some L) :
    L.sh = 0 ∧ ∃ c fr, w.heap[L.blk]? = some (.cells c e fr) ∧ c.size = L.sz ∧ CellsR E.ρ β L.sh ext t c ∧ (fr.1 = fr.2 ∨ fr.2 ≤ L.sh + fz) := by
  obtain ⟨_, L', o, h1, h2, h3, h4⟩ := r.blk b _ hb
  rw [hL] at h1; cases h1
  cases o <;> first | exact h4.elim | skip
  rename_i c e' fr
  obtain ⟨h0, rfl, h5, h6, h7⟩ := h4
  exact ⟨h0, c, fr, h3, h5, h6, h7⟩

theorem cell_at {L : Nat} {off : Nat} {c : Array Value} {e : TypeId} {fr : Nat × Nat} (hw : w.heap[L]? = some (.cells c e fr)) : w.cell? ⟨L, off, none⟩ = c[off]? := by
  simp [World.cell?, hw]

theorem CellsR.at {ρ : Nat → Value} {sh ext : Nat} {t : T AVal} {c : Array Value} (hc : CellsR ρ β sh ext t c) {i : Nat} {v : AVal} (hi : t.get i = some v) : ∃ cv, c[sh + i]? = some cv ∧ VR ρ β v cv ∧ cv.oneCell' = true :=
  (hc i v hi).2

/-- Some cells in a row, read. -/
theorem read_cells {ρ : Nat → Value} {sh ext : Nat} {t : T AVal} {c : Array Value} (hc : CellsR ρ β sh ext t c) {n off : Nat} {l : List AVal} (hl : readT t n off = some l) :
    ∃ vs : List Value, vs.length = n ∧ VRs ρ β l vs ∧ (∀ u ∈ vs, u.oneCell' = true) ∧ ∀ (j : Nat) (v : Value), vs[j]? = some v → c[sh + off + j]? = some v := by
  obtain ⟨h1, h2⟩ := readT_some n off t l hl
  have hex : ∀ j, j < n → ∃ v x, l[j]? = some x ∧ c[sh + off + j]? = some v ∧ VR ρ β x v ∧ v.oneCell' = true := by
    intro j hj
    have hx : l[j]? = some l[j] := by rw [List.getElem?_eq_getElem (by omega)]
    have hg := h2 j hj
    rw [hx] at hg
    obtain ⟨cv, e1, e2, e3⟩ := hc.at hg
    exact ⟨cv, _, hx, by rw [Nat.add_assoc]; exact e1, e2, e3⟩
  refine ⟨(List.range n).map fun j => (c[sh + off + j]?).getD undef, by simp, VRs.of_get (by simp [h1]) fun j x hx => ?_, fun u hu => ?_, fun j v hv => ?_⟩
  · have hj : j < n := by rw [← h1]; exact (List.getElem?_eq_some_iff.1 hx).1
    obtain ⟨v, y, e1, e2, e3, e4⟩ := hex j hj
    rw [hx] at e1; cases e1
    exact ⟨v, by simp [hj, e2], e3⟩
  · simp only [List.mem_map, List.mem_range] at hu
    obtain ⟨j, hj, rfl⟩ := hu
    obtain ⟨v, y, e1, e2, e3, e4⟩ := hex j hj
    rw [e2]; exact e4
  · have hj : j < n := by have := (List.getElem?_eq_some_iff.1 hv).1; simpa using this
    obtain ⟨v', y, e1, e2, e3, e4⟩ := hex j hj
    simp only [List.getElem?_map, List.getElem?_range hj, Option.map_some, Option.some.injEq, e2, Option.getD_some] at hv
    subst hv; exact e2

/-- What a reading piece answers, in a world that the memory stands for. -/
def SaysAt (P : Program) (E : Env) (β : Beta) (w : World) (s : Sem Value) (v : AVal) : Prop := ∃ cv, s.run P w = .ok cv w ∧ VR E.ρ β v cv

theorem load_sound (r : Rel E β h w) {t : TypeId} {p v : AVal} {cp : Value} (hl : loadA P h t p = some v) (hp : VR E.ρ β p cp) : SaysAt P E β w (Instr.loadAt t cp) v := by
  unfold loadA at hl
  split at hl
  · rename_i b off
    cases hp with | @ptr _ _ L hL =>
    split at hl
    · rename_i e ext fz c hb
      obtain ⟨h0, ca, fr, hw, hsz, hc, hfr⟩ := r.row hb hL
      split at hl
      · rename_i k ha hs
        cases hr : readT c k off with
        | none => rw [hr] at hl; cases hl
        | some l =>
          rw [hr] at hl; simp only [Option.map_some, Option.some.injEq] at hl; subst hl
          obtain ⟨vs, e1, e2, e3, e4⟩ := read_cells hc hr
          have hcells : (loadCells ⟨L.blk, L.sh + off, none⟩ k).run P w = .ok vs.toArray w := by
            rw [← e1]
            exact run_loadCells_list _ _ _ fun j v hv => by rw [Addr.add_lit, cell_at hw]; exact e4 j v hv
          exact ⟨.agg vs.toArray, by simp [Instr.loadAt, Instr.sureAddr, loadVar, aggT_sound ha, sizeT_sound hs, hcells], .agg (by simpa using e2) (by simpa using e3)⟩
      · rename_i k ha
        obtain ⟨cv, e1, e2, e3⟩ := hc.at hl
        have hcell : w.cell? ⟨L.blk, L.sh + off, none⟩ = some cv := by rw [cell_at hw]; exact e1
        exact ⟨cv, by simp [Instr.loadAt, Instr.sureAddr, loadVar, aggT_sound ha, hcell], e2⟩
      · cases hl
    · cases hl
  · cases hl

theorem loadGlob_sound (r : Rel E β h w) {t : TypeId} {g : Nat} {v : AVal} (ha : aggT P t = some false) (hg : E.G g = some v) : SaysAt P E β w (Instr.loadAt t (.pointer (some ⟨g, 0, none⟩))) v := by
  obtain ⟨_, cv, h1, h2⟩ := r.glob g v hg
  exact ⟨cv, by simp [Instr.loadAt, Instr.sureAddr, loadVar, aggT_sound ha, h1], h2 β⟩

/-! Maps. -/
theorem EntsR.length : ∀ {es : List Ent} {ms : List MapEntry}, EntsR E.ρ β es ms → es.length = ms.length
  | [], [], _ => rfl
  | _ :: _, _ :: _, ⟨_, _, _, h⟩ => by simp [EntsR.length h]
  | [], _ :: _, h => h.elim
  | _ :: _, [], h => h.elim

theorem Rel.mapObj (r : Rel E β h w) {b : Nat} {L : Loc} {es : List Ent} {clock : Nat} (hb : h.get b = some (.map es clock)) (hL : β b = some L) :
    ∃ ms, w.heap[L.blk]? = some (.map ms clock) ∧ EntsR E.ρ β es ms.toList ∧ L.sh = 0 := by
  obtain ⟨_, L', o, h1, h2, h3, h4⟩ := r.blk b _ hb
  rw [hL] at h1; cases h1
  cases o <;> first | exact h4.elim | skip
  obtain ⟨rfl, h5, h6⟩ := h4
  exact ⟨_, h3, h6, h5⟩

theorem run_getMap {r : Nat} {ms : Array MapEntry} {clock : Nat} (hw : w.heap[r]? = some (.map ms clock)) : (getObj r).run P w = .ok (.map ms clock) w := by
  simp [getObj, Sem.run, hw]

theorem keyFits_cases {t : TypeId} {k : AVal} (hk : keyFits P t k = true) : ∃ td, P.underlying t = some td ∧
    ((∃ i j n, td = .int i ∧ k = .int j n) ∨ (∃ n a, td = .string ∧ k = .str n a) ∨ ∃ b, td = .bool ∧ k = .bool b) := by
  unfold keyFits und at hk
  split at hk
  · rename_i i j n hu; exact ⟨_, hu, .inl ⟨i, j, n, rfl, rfl⟩⟩
  · rename_i n a hu; exact ⟨_, hu, .inr (.inl ⟨n, a, rfl, rfl⟩)⟩
  · rename_i b hu; exact ⟨_, hu, .inr (.inr ⟨b, rfl, rfl⟩)⟩
  · cases hk

theorem run_checkKey {t : TypeId} {k : AVal} (hk : keyFits P t k = true) (em : Bool) (n : Nat) (v : Value) : (Instr.checkKey em (n + 1) t v).run P w = .ok () w := by
  obtain ⟨td, hu, ⟨i, j, n, rfl, _⟩ | ⟨n, a, rfl, _⟩ | ⟨b, rfl, _⟩⟩ := keyFits_cases hk <;> simp [Instr.checkKey, run_underlying hu]

/-- What looking for a key comes to. -/
def FoundR (E : Env) (β : Beta) : Option (Nat × AVal) → Option (Nat × Value) → Prop
  | none, none => True
  | some (i, v), some (j, cv) => i = j ∧ VR E.ρ β v cv
  | _, _ => False

theorem find_sound {td : TypeDesc} {k : AVal} {ck : Value} (hk : VR E.ρ β k ck) (htd : (∃ i j n, td = .int i ∧ k = .int j n) ∨ (∃ n a, td = .string ∧ k = .str n a) ∨ ∃ b, td = .bool ∧ k = .bool b) :
    ∀ (es : List Ent) (ms : List MapEntry) (i : Nat) (res : Option (Nat × AVal)), EntsR E.ρ β es ms → findE k es i = some res →
      ∃ cres, Instr.findNow td ck ms i = some cres ∧ FoundR E β res cres
  | [], [], i, res, _, hf => by
    simp only [findE, Option.some.injEq] at hf; subst hf
    exact ⟨none, rfl, trivial⟩
  | e :: es, m :: ms, i, res, ⟨h1, h2, h3, h4⟩, hf => by
    have ih := fun hf => find_sound hk htd es ms (i + 1) res h4 hf
    generalize hmk : m.key = mk at h1
    generalize hke : e.key = ke at h1
    simp only [findE, hke] at hf
    split at hf
    · rename_i j a j' b
      cases hk; cases h1
      obtain ⟨i0, _, _, rfl, _⟩ | ⟨_, _, _, hc⟩ | ⟨_, _, hc⟩ := htd
      case inr.inl => cases hc
      case inr.inr => cases hc
      cases hj : (j == j') with
      | false => rw [hj] at hf; cases hf
      | true =>
        rw [hj, cond_true] at hf
        have := eq_of_beq hj; subst this
        cases hab : (a == b) with
        | true =>
          rw [hab, cond_true] at hf; simp only [Option.some.injEq] at hf; subst hf
          exact ⟨some (i, m.val), by simp [Instr.findNow, Instr.sameNow, hmk, hab], rfl, h2⟩
        | false =>
          rw [hab, cond_false] at hf
          obtain ⟨cres, g1, g2⟩ := ih hf
          exact ⟨cres, by simp [Instr.findNow, Instr.sameNow, hmk, hab]; exact g1, g2⟩
    · rename_i n a m' b
      cases hk with | @str _ _ s s1 s2 =>
      cases h1 with | @str _ _ s' s3 s4 =>
      obtain ⟨_, _, _, _, hc⟩ | ⟨_, _, rfl, _⟩ | ⟨_, _, hc⟩ := htd
      case inl => cases hc
      case inr.inr => cases hc
      have hab : (s == s') = (Nat.beq n m' && Nat.beq a b) := by rw [beq_toListBytes]; exact str_beq s1 s2 s3 s4
      cases hb : (Nat.beq n m' && Nat.beq a b) with
      | true =>
        rw [hb, cond_true] at hf; simp only [Option.some.injEq] at hf; subst hf
        exact ⟨some (i, m.val), by simp only [Instr.findNow, Instr.sameNow, hmk, hab, hb], rfl, h2⟩
      | false =>
        rw [hb, cond_false] at hf
        obtain ⟨cres, g1, g2⟩ := ih hf
        exact ⟨cres, by simp only [Instr.findNow, Instr.sameNow, hmk, hab, hb]; exact g1, g2⟩
    · rename_i a b
      cases hk; cases h1
      obtain ⟨_, _, _, _, hc⟩ | ⟨_, _, _, hc⟩ | ⟨_, rfl, _⟩ := htd
      case inl => cases hc
      case inr.inl => cases hc
      cases hb : (a == b) with
      | true =>
        rw [hb, cond_true] at hf; simp only [Option.some.injEq] at hf; subst hf
        exact ⟨some (i, m.val), by simp [Instr.findNow, Instr.sameNow, hmk, hb], rfl, h2⟩
      | false =>
        rw [hb, cond_false] at hf
        obtain ⟨cres, g1, g2⟩ := ih hf
        exact ⟨cres, by simp [Instr.findNow, Instr.sameNow, hmk, hb]; exact g1, g2⟩
    · cases hf
  | [], _ :: _, i, res, hr, _ => hr.elim
  | _ :: _, [], i, res, hr, _ => hr.elim

theorem findKey_sound {t : TypeId} {k : AVal} {ck : Value} {es : List Ent} {ms : List MapEntry} {res : Option (Nat × AVal)} (hk : VR E.ρ β k ck) (hf : keyFits P t k = true) (he : EntsR E.ρ β es ms)
    (hr : findE k es 0 = some res) : ∃ cres, (∀ w, (Instr.findKey t ck ms).run P w = .ok cres w) ∧ FoundR E β res cres := by
  obtain ⟨td, hu, htd⟩ := keyFits_cases hf
  obtain ⟨cres, g1, g2⟩ := find_sound hk htd es ms 0 res he hr
  exact ⟨cres, fun w => by simp [Instr.findKey, run_underlying hu, g1], g2⟩

theorem lookup_sound (r : Rel E β h w) {t : TypeId} {m k v : AVal} {cm ck : Value} {ok : Bool} (hl : lookupA P h t m k ok = some v) (hm : VR E.ρ β m cm) (hk : VR E.ρ β k ck) :
    SaysAt P E β w (Instr.lookup t cm ck ok) v := by
  unfold lookupA und at hl
  split at hl
  · rename_i kt et es hu hes
    cases hf : keyFits P kt k with
    | false => rw [hf] at hl; cases hl
    | true =>
      rw [hf] at hl; simp only [Bool.not_true, cond_false] at hl
      -- the entries
      have hents : ∃ ms : Array MapEntry, EntsR E.ρ β es ms.toList ∧ ((cm = .map none ∧ ms = #[]) ∨ ∃ B clock, cm = .map (some B) ∧ w.heap[B]? = some (.map ms clock)) := by
        unfold entsA at hes
        split at hes
        · cases hm; simp only [Option.some.injEq] at hes; subst hes
          exact ⟨#[], trivial, .inl ⟨rfl, rfl⟩⟩
        · cases hm with | @map b L hL =>
          split at hes
          · rename_i clock hb
            simp only [Option.some.injEq] at hes; subst hes
            obtain ⟨ms, h1, h2, _⟩ := r.mapObj hb hL
            exact ⟨ms, h2, .inr ⟨_, _, rfl, h1⟩⟩
          · cases hes
        · cases hes
      obtain ⟨ms, hms, hcm⟩ := hents
      have hck := fun w => run_checkKey (P := P) (w := w) hf ms.isEmpty 9999 ck
      split at hl
      · rename_i i x hfd
        obtain ⟨cres, g1, g2⟩ := findKey_sound hk hf hms hfd
        cases cres with
        | none => exact g2.elim
        | some q =>
          obtain ⟨j, cv⟩ := q
          obtain ⟨rfl, hv⟩ := g2
          simp only [Option.some.injEq] at hl; subst hl
          refine ⟨if ok then .tuple #[cv, .bool true] else cv, ?_, ?_⟩
          · rcases hcm with ⟨rfl, rfl⟩ | ⟨B, clock, rfl, hB⟩
            · simp only [Instr.lookup, run_underlying hu, Sem.run_bind, Result.andThen_ok, hck, g1, Sem.run_pure]
            · simp only [Instr.lookup, run_underlying hu, Sem.run_bind, Result.andThen_ok, run_getMap hB, hck, g1, Sem.run_pure]
          · cases ok
            · exact hv
            · exact .tuple (.cons hv (.cons (.bool _) .nil))
      · rename_i hfd
        obtain ⟨cres, g1, g2⟩ := findKey_sound hk hf hms hfd
        cases cres with
        | some q => exact g2.elim
        | none =>
          split at hl
          · rename_i z hz
            obtain ⟨cz, _, hzr, hzv⟩ := zeroT_sound (E := E) (β := β) hz
            simp only [Option.some.injEq] at hl; subst hl
            refine ⟨if ok then .tuple #[cz, .bool false] else cz, ?_, ?_⟩
            · rcases hcm with ⟨rfl, rfl⟩ | ⟨B, clock, rfl, hB⟩
              · simp only [Instr.lookup, run_underlying hu, Sem.run_bind, Result.andThen_ok, hck, g1, Sem.run_pure, hzr]
              · simp only [Instr.lookup, run_underlying hu, Sem.run_bind, Result.andThen_ok, run_getMap hB, hck, g1, Sem.run_pure, hzr]
            · cases ok
              · exact hzv
              · exact .tuple (.cons hzv (.cons (.bool _) .nil))
          · cases hl
      · cases hl
  · cases hl
end
end Go.Ae
/- Operations that only read memory: the rest, and the one theorem. -/
set_option linter.unusedSimpArgs false
set_option linter.unusedVariables false
set_option maxHeartbeats 1000000
namespace Go.Ae
open Go

section
variable {P : Program} {E : Env} {β : Beta} {h : Hp} {w : World}

/-- Bytes in cells, as a text. -/
theorem natOfCells_sound : ∀ {l : List AVal} {vs : List Value} {k : Nat}, natOfCells l = some k → VRs E.ρ β l vs →
    ∃ bs : List UInt8, bs.length = l.length ∧ codeOf bs = k ∧ vs = (bs.map fun b => (b.toNat : Int)).map (Value.int .u8)
  | [], vs, k, hk, hr => by
    cases hr
    simp only [natOfCells, Option.some.injEq] at hk; subst hk
    exact ⟨[], rfl, rfl, rfl⟩
  | x :: l, vs, k, hk, hr => by
    cases hr with | @cons _ _ v vs hx hs =>
    unfold natOfCells at hk
    split at hk
    · rename_i hxl; cases hxl
    · rename_i n l' hxl
      cases hxl
      cases hx
      split at hk
      · rename_i b r hr'
        cases hb : Nat.blt b 256 with
        | false => rw [hb] at hk; cases hk
        | true =>
          rw [hb, cond_true] at hk; simp only [Option.some.injEq] at hk; subst hk
          have hlt : b < 256 := by simpa [Nat.blt_eq] using hb
          obtain ⟨bs, h1, h2, h3⟩ := natOfCells_sound hr' hs
          have hb8 : (UInt8.ofNat b).toNat = b := by rw [UInt8.toNat_ofNat']; exact Nat.mod_eq_of_lt hlt
          refine ⟨UInt8.ofNat b :: bs, by simp [h1], by simp only [codeOf]; rw [hb8, h2], ?_⟩
          simp only [List.map_cons, hb8, ← h3]
          rfl
      · cases hk
    · cases hk

theorem push_all : ∀ (bs : List UInt8) (r : ByteArray), ((bs.map fun b => (b.toNat : Int)).foldl (fun r n => r.push (UInt8.ofNat n.toNat)) r).data.toList = r.data.toList ++ bs
  | [], r => by simp
  | b :: bs, r => by
    simp only [List.map_cons, List.foldl_cons]
    rw [push_all bs]
    have : UInt8.ofNat ((b.toNat : Int).toNat) = b := by simp
    rw [this]
    simp [ByteArray.push]

theorem liesAt_one {e : TypeId} (hc : 0 < P.cellsOf e) (count : Nat) (hn : 1 ≤ count) : liesAt P P.depth e count 0 e 1 = true := by
  have hd : P.depth = (2 * (P.types.size + Made.depth) + 1) + 1 := rfl
  rw [hd]
  simp only [liesAt, Bool.or_eq_true]
  left
  rw [hd]
  have : P.cellsOf e ≠ 0 := by omega
  simp [rowAt, this, hn, sameLayout]

theorem head_sound (r : Rel E β h w) {b : Nat} {t : TypeId} {L : Loc} (hh : headIs P h b t = true) (hL : β b = some L) :
    0 < P.cellsOf t ∧ ∃ cells, w.shape? L.blk = some (t, cells) ∧ P.cellsOf t ≤ cells ∧ L.sh = 0 := by
  unfold headIs at hh
  split at hh
  · rename_i e ext fz c hb
    simp only [Bool.and_eq_true] at hh
    obtain ⟨⟨h1, h2⟩, h3⟩ := hh
    have := Nat.eq_of_beq_eq_true h1; subst this
    have hpos : 0 < P.cellsOf e := by simpa [Nat.blt_eq] using h2
    obtain ⟨h0, ca, fr, hw, hsz, hc, hfr⟩ := r.row hb hL
    refine ⟨hpos, ca.size, by simp [World.shape?, hw], ?_, h0⟩
    obtain ⟨v, hv⟩ := known_spec _ _ _ h3 (P.cellsOf e - 1) (by omega)
    obtain ⟨cv, e1, _, _⟩ := hc.at hv
    have := (Array.getElem?_eq_some_iff.1 e1).1
    omega
  · cases hh

theorem convR_sound (r : Rel E β h w) {src dst : TypeId} {x v : AVal} {cx : Value} (hc : convR P src dst h x = some v) (hx : VR E.ρ β x cx) : SaysAt P E β w (convert src dst cx) v := by
  unfold convR und at hc
  split at hc
  · rename_i e hs hd
    cases hx
    split at hc
    · rename_i hu
      simp only [Option.some.injEq] at hc; subst hc
      exact ⟨.string .empty, by simp [convert, run_underlying hs, run_underlying hd, run_underlying hu, Conv.bytesToString], .str rfl (by simp)⟩
    · cases hc
  · rename_i e b off len cap ex sz hs hd
    cases hx with | @slice _ _ _ _ _ c _ L hL hsz hl hcap he hz =>
    split at hc
    · rename_i e' ext fz t hu hb
      cases h1 : Nat.beq sz 1 with
      | false => rw [h1] at hc; cases hc
      | true =>
        rw [h1, cond_true] at hc
        cases hr : readT t len off with
        | none => rw [hr] at hc; cases hc
        | some l =>
          rw [hr] at hc; simp only [Option.bind_some] at hc
          cases hk : natOfCells l with
          | none => rw [hk] at hc; cases hc
          | some k =>
            rw [hk] at hc; simp only [Option.map_some, Option.some.injEq] at hc; subst hc
            obtain ⟨h0, ca, fr, hw, hsize, hcr, hfr⟩ := r.row hb hL
            obtain ⟨vs, e1, e2, e3, e4⟩ := read_cells hcr hr
            obtain ⟨bs, g1, g2, g3⟩ := natOfCells_sound hk e2
            subst g3
            have hlen : bs.length = len := by simpa using e1
            have hcells : (loadCells ⟨L.blk, L.sh + off, none⟩ len).run P w = .ok ((bs.map fun b => (b.toNat : Int)).map (Value.int .u8)).toArray w := by
              have := run_loadCells_list (P := P) w ⟨L.blk, L.sh + off, none⟩ ((bs.map fun b => (b.toNat : Int)).map (Value.int .u8)) fun j v hv => by rw [Addr.add_lit, cell_at hw]; exact e4 j v hv
              rw [e1] at this; exact this
            refine ⟨.string ((bs.map fun b => (b.toNat : Int)).foldl (fun r n => r.push (UInt8.ofNat n.toNat)) ByteArray.empty), ?_, .str ?_ ?_⟩
            · simp only [convert, run_underlying hs, run_underlying hd, run_underlying hu, Sem.run_bind, Result.andThen_ok]
              exact run_bytesToString w _ len c _ hcells
            · rw [push_all, ← g2, ← hlen, decode_codeOf]; rfl
            · rw [← g2, ← hlen]; exact codeOf_lt bs
    · cases hc
  · rename_i t b hs hd
    cases hx with | @ptr _ _ L hL =>
    split at hc
    · rename_i k hk
      cases hh : headIs P h b t with
      | false => rw [hh] at hc; cases hc
      | true =>
        rw [hh, cond_true] at hc; simp only [Option.some.injEq] at hc; subst hc
        obtain ⟨g1, cells, g2, g3, g4⟩ := head_sound r hh hL
        unfold sizeT at hk
        cases hi : P.info? t with
        | none => rw [hi] at hk; cases hk
        | some i =>
          rw [hi] at hk; simp only [Option.map_some, Option.some.injEq] at hk
          exact ⟨_, Lib.run_to_unsafe w _ hs hd hi (by omega) g2 (by simp only; omega), .ptr hL⟩
    · cases hc
  · rename_i t b hs hd
    cases hx with | @ptr _ _ L hL =>
    split at hc
    · rename_i k hk
      cases hh : headIs P h b t with
      | false => rw [hh] at hc; cases hc
      | true =>
        rw [hh, cond_true] at hc; simp only [Option.some.injEq] at hc; subst hc
        obtain ⟨g1, cells, g2, g3, g4⟩ := head_sound r hh hL
        unfold sizeT at hk
        cases hi : P.info? t with
        | none => rw [hi] at hk; cases hk
        | some i =>
          refine ⟨_, Lib.run_from_unsafe w _ hs hd hi g2 ?_, .ptr hL⟩
          simp only [g4, Nat.zero_add]
          exact liesAt_one g1 _ (Nat.div_pos g3 g1)
    · cases hc
  · cases hc

theorem eqPtr_sound (r : Rel E β h w) {t e : TypeId} {x y : AVal} {cx cy : Value} {b : Bool} (hu : P.underlying t = some (.pointer e)) (hb : eqPtr P h e x y = some b) (hx : VR E.ρ β x cx) (hy : VR E.ρ β y cy) (d : Nat) :
    (Op.equalIn (d + 1) t cx cy).run P w = .ok b w := by
  unfold eqPtr at hb
  split at hb
  · rename_i a i b' j
    cases hx with | @ptr _ _ L hL =>
    cases hy with | @ptr _ _ L' hL' =>
    split at hb
    · rename_i k hsz
      cases hab : Nat.beq a b' with
      | true =>
        exact eqA_sound (E := E) 1 (d + 1) t (.ptr a i) (.ptr b' j) _ _ b (by omega) (by simp only [eqA, und, hu, hsz, hab, cond_true]; rw [hab] at hb; exact hb) (.ptr hL) (.ptr hL') w
      | false =>
        rw [hab, cond_false] at hb
        split at hb
        · rename_i e1 x1 t1 e2 x2 t2 hb1 hb2
          simp only [Option.some.injEq] at hb; subst hb
          obtain ⟨h0, c1, f1, hw1, hs1, _, hf1⟩ := r.row hb1 hL
          obtain ⟨h0', c2, f2, hw2, hs2, _, hf2⟩ := r.row hb2 hL'
          have hne : L.blk ≠ L'.blk := fun e => by
            have := r.inj a b' _ _ L L' hb1 hb2 hL hL' e
            subst this; rw [Nat.beq_refl] at hab; cases hab
          have nf1 : ∀ o, w.frozen? ⟨L.blk, o, none⟩ = false := fun o => by
            simp only [World.frozen?, hw1]
            rcases hf1 with e | e
            · simp [e]
            · simp; omega
          have nf2 : ∀ o, w.frozen? ⟨L'.blk, o, none⟩ = false := fun o => by
            simp only [World.frozen?, hw2]
            rcases hf2 with e | e
            · simp [e]
            · simp; omega
          have sh1 : w.shape? L.blk = some (e1, c1.size) := by simp [World.shape?, hw1]
          have sh2 : w.shape? L'.blk = some (e2, c2.size) := by simp [World.shape?, hw2]
          simp [Op.equalIn, run_underlying hu, sizeT_sound hsz, sameAddr, hne, nf1, nf2, noView, viewAt, sh1, sh2, mayBeOne, stringish]
        · cases hb
    · cases hb
  · cases hx; cases hy; simp only [Option.some.injEq] at hb; subst hb; simp [Op.equalIn, run_underlying hu]
  · cases hx; cases hy; simp only [Option.some.injEq] at hb; subst hb; simp [Op.equalIn, run_underlying hu]
  · cases hx; cases hy; simp only [Option.some.injEq] at hb; subst hb; simp [Op.equalIn, run_underlying hu]
  · cases hb

theorem eqPtrOp_sound (r : Rel E β h w) {op : BinOp} {t : TypeId} {ox oy : Operand} {x y v : AVal} {cx cy : Value} (hb : eqPtrOp P h op t x y = some v) (hx : VR E.ρ β x cx) (hy : VR E.ρ β y cy) :
    SaysAt P E β w (do eqGuard op t ox oy cx cy; binOp op t cx cy) v := by
  unfold eqPtrOp und at hb
  split at hb
  · rename_i e hu
    have hpt : (∃ p, cx = .pointer p) ∧ (∃ q, cy = .pointer q) := by
      split at hb
      all_goals first
        | (cases hb; done)
        | (rename_i b hq
           unfold eqPtr at hq
           split at hq <;> first | (cases hq; done) | (cases hx; cases hy; exact ⟨⟨_, rfl⟩, ⟨_, rfl⟩⟩))
    obtain ⟨⟨p, rfl⟩, ⟨q, rfl⟩⟩ := hpt
    have hg : (eqGuard op t ox oy (.pointer p) (.pointer q)).run P w = .ok () w := by cases op <;> rfl
    split at hb
    · rename_i b hq
      simp only [Option.some.injEq] at hb; subst hb
      have := eqPtr_sound r hu hq hx hy 9999
      exact ⟨.bool b, by simp only [Sem.run_bind, hg, Result.andThen_ok, binOp, Op.equal, Op.maxDepth, this, Sem.run_pure], .bool _⟩
    · rename_i b hq
      simp only [Option.some.injEq] at hb; subst hb
      have := eqPtr_sound r hu hq hx hy 9999
      exact ⟨.bool !b, by simp only [Sem.run_bind, hg, Result.andThen_ok, binOp, Op.equal, Op.maxDepth, this, Sem.run_pure], .bool _⟩
    · cases hb
  · cases hb

theorem sliceArr_sound (r : Rel E β h w) {t : TypeId} {x v : AVal} {cx : Value} {lo hi mx : Option AVal} {clo chi cmx : Option Value} (hs : sliceArr P h t x lo hi mx = some v) (hx : VR E.ρ β x cx)
    (hlo : OptR E β lo clo) (hhi : OptR E β hi chi) (hmx : OptR E β mx cmx) : SaysAt P E β w (Instr.sliceAt t cx clo chi cmx) v := by
  unfold sliceArr und at hs
  split at hs
  · rename_i n e b off hu
    cases hx with | @ptr _ _ L hL =>
    split at hs
    · rename_i l h' m ex size e' ext fz c hb hsz hg
      cases hc : (Nat.beq (n * size) 0 || !known c (n * size) off) with
      | true => rw [hc] at hs; cases hs
      | false =>
        rw [hc, cond_false] at hs; simp only [Option.some.injEq] at hs; subst hs
        simp only [Bool.or_eq_false_iff, Bool.not_eq_false'] at hc
        have hnz : n * size ≠ 0 := fun e => by rw [e] at hc; simp at hc
        have hpos : 0 < size := by
          rcases Nat.eq_zero_or_pos size with e0 | e0
          · subst e0; simp at hnz
          · exact e0
        obtain ⟨g1, g2, m', g3, g4, g5, g6⟩ := bounds_sound (P := P) (isSlice := false) hb hlo hhi hmx (Nat.le_refl _) (Nat.le_refl _) (fun _ => rfl)
        obtain ⟨h0, ca, fr, hw, hsize, hcr, hfr⟩ := r.row hg hL
        have hex : ex = true := by
          unfold boundsA at hb
          cases hcnd : (mx.isSome && hi.isNone) with
          | true => rw [hcnd] at hb; cases hb
          | false =>
            rw [hcnd, cond_false] at hb
            split at hb
            · split at hb
              · split at hb
                · simp only [Option.some.injEq, Prod.mk.injEq, Bool.true_or] at hb; exact hb.2.2.2.symm
                · cases hb
              · cases hb
            · cases hb
        have hm : m' = m := g5 hex
        subst hm
        have hle : off + n * size ≤ L.sz := by
          obtain ⟨v, hv⟩ := known_spec _ _ _ hc.2 (n * size - 1) (by omega)
          obtain ⟨cv, e1, _, _⟩ := hcr.at hv
          have := (Array.getElem?_eq_some_iff.1 e1).1
          omega
        refine ⟨.slice (some ⟨L.blk, L.sh + (if m' = l then off else off + l * size), none⟩) (h' - l) (m' - l), ?_, .slice hL hpos (by omega) (Nat.le_refl _) (fun _ => rfl) ?_⟩
        · simp only [Instr.sliceAt, run_underlying hu, Sem.run_bind, Result.andThen_ok, Instr.sureAddr, g6, sizeT_sound hsz, Sem.run_pure]
          congr 3
          by_cases e1 : m' = l
          · rw [if_pos e1, if_pos e1]
          · rw [if_neg e1, if_neg e1, Addr.add_lit, Nat.add_assoc]
        · have h1 : (m' - l) * size + l * size = m' * size := by rw [← Nat.add_mul]; congr 1; omega
          have h2 : m' * size ≤ n * size := Nat.mul_le_mul_right _ g4
          rw [h0]
          by_cases e2 : m' = l
          · rw [if_pos e2]
            have : (m' - l) * size = 0 := by rw [e2]; simp
            omega
          · rw [if_neg e2]; omega
    · cases hs
  · cases hs

theorem lenMap_sound (r : Rel E β h w) {ts : Array TypeId} {ty : TypeId} {consts : Array Bool} {args : List AVal} {cargs : Array Value} {v : AVal} (hl : lenMap P h ts.toList args = some v) (hr : VRs E.ρ β args cargs.toList) :
    ∃ cv, (builtin .len ts ty consts cargs).run P w = .ok (.value cv) w ∧ VR E.ρ β v cv := by
  obtain ⟨tsl⟩ := ts
  obtain ⟨cl⟩ := cargs
  simp only at hl hr
  unfold lenMap und at hl
  split at hl
  · rename_i t tl b al
    cases hr with | @cons _ _ cx cl hx hs =>
    cases hx with | @map _ L hL =>
    split at hl
    · rename_i k e es clock hu hb
      simp only [Option.some.injEq] at hl; subst hl
      obtain ⟨ms, h1, h2, _⟩ := r.mapObj hb hL
      exact ⟨.int .i64 es.length, by simp [builtin, Builtin.len_, run_underlying hu, run_getMap h1, goInt, h2.length], .int _ _⟩
    · cases hl
  · rename_i t tl al
    cases hr with | @cons _ _ cx cl hx hs =>
    cases hx
    split at hl
    · rename_i k e hu
      simp only [Option.some.injEq] at hl; subst hl
      exact ⟨.int .i64 0, by simp [builtin, Builtin.len_, run_underlying hu, goInt], .int _ _⟩
    · cases hl
  · cases hl

theorem SaysAt.op {s : Sem Value} {v : AVal} (hs : SaysAt P E β w s v) : ∃ cv, (do Pure.pure (Next.value (← s)) : Sem Next).run P w = .ok (.value cv) w ∧ VR E.ρ β v cv :=
  let ⟨cv, hr, hv⟩ := hs
  ⟨cv, by simp [hr], hv⟩

variable {n : Nat} {fr : T AVal} {a : Act}
theorem read_sound (r : Rel E β h w) {o : Oper} {v : AVal} (hr : readOp P E.G fr h o = some v) (hf : FrR E β n fr a) : ∃ cv, (execOp a.eval o).run P w = .ok (.value cv) w ∧ VR E.ρ β v cv := by
  unfold readOp at hr
  split at hr <;> rename_i ho
  · -- load
    rename_i t x
    split at hr
    · rename_i g hx
      have hv := opdA_sound hf hx
      generalize hcx : a.eval x = cx at hv
      cases hv
      split at hr
      · rename_i ha
        obtain ⟨cv, h1, h2⟩ := (loadGlob_sound (P := P) r ha hr).op
        exact ⟨cv, by simp only [execOp, ho, hcx]; exact h1, h2⟩
      · cases hr
    · rename_i p _ hx
      obtain ⟨cv, h1, h2⟩ := (load_sound (P := P) r hr (opdA_sound hf hx)).op
      exact ⟨cv, by simp only [execOp, ho]; exact h1, h2⟩
    · cases hr
  · split at hr
    · rename_i hx hy
      obtain ⟨cv, h1, h2⟩ := (lookup_sound (P := P) r hr (opdA_sound hf hx) (opdA_sound hf hy)).op
      exact ⟨cv, by simp only [execOp, ho]; exact h1, h2⟩
    · cases hr
  · split at hr
    · rename_i hx
      obtain ⟨cv, h1, h2⟩ := (convR_sound (P := P) r hr (opdA_sound hf hx)).op
      exact ⟨cv, by simp only [execOp, ho]; exact h1, h2⟩
    · cases hr
  · split at hr
    · rename_i hx hy
      obtain ⟨cv, h1, h2⟩ := (eqPtrOp_sound (P := P) r hr (opdA_sound hf hx) (opdA_sound hf hy)).op
      exact ⟨cv, by simp only [execOp, ho]; exact h1, h2⟩
    · cases hr
  · split at hr
    · rename_i h1 h2 h3 h4
      obtain ⟨cv, g1, g2⟩ := (sliceArr_sound (P := P) r hr (opdA_sound hf h1) (opt_sound hf h2) (opt_sound hf h3) (opt_sound hf h4)).op
      exact ⟨cv, by simp only [execOp, ho]; exact g1, g2⟩
    · cases hr
  · rename_i c
    split at hr
    · rename_i hcb
      split at hr
      · rename_i args hargs
        have hvs := opdsA_sound hf hargs
        obtain ⟨cv, g1, g2⟩ := lenMap_sound (P := P) r (ts := c.argTypes) (ty := o.type) (consts := c.args.map fun | .const _ => true | _ => false) (cargs := c.args.map a.eval) hr (by simpa using hvs)
        exact ⟨cv, by simp only [execOp, ho, resolve, hcb, Sem.run_bind, Sem.run_pure, Result.andThen_ok, invoke]; exact g1, g2⟩
      · cases hr
    · cases hr
  · cases hr
end
end Go.Ae
/- Operations that make one block. -/
set_option linter.unusedSimpArgs false
set_option linter.unusedVariables false
set_option maxHeartbeats 1000000
namespace Go.Ae
open Go

section
variable {P : Program} {E : Env} {β : Beta} {h : Hp} {w : World} {n : Nat} {fr : T AVal} {a : Act}

theorem cells_fill {ρ : Nat → Value} {l : List AVal} {vs : List Value} (hr : VRs ρ β l vs) (h1 : ∀ u ∈ vs, u.oneCell' = true) : CellsR ρ β 0 l.length (fillT l 0 .e) vs.toArray := by
  intro i v hi
  rw [get_fillT] at hi
  split at hi
  · rename_i hlt
    simp only [Nat.sub_zero] at hi
    obtain ⟨cv, e1, e2⟩ := hr.get hi
    exact ⟨by omega, cv, by simpa using e1, e2, h1 cv (List.mem_of_getElem? e1)⟩
  · simp at hi

/-- A piece of the model that makes one block, to which the abstract one of number id belongs. -/
def Makes (P : Program) (E : Env) (β : Beta) (w : World) (s : Sem Next) (id : Nat) (v : AVal) (b : Blk) : Prop :=
  ∃ cv w' o sz, s.run P w = .ok (.value cv) w' ∧ w'.heap = w.heap.push o ∧ w'.os = w.os ∧ w'.tape = w.tape ∧ w'.output = w.output ∧
    VR E.ρ (upd β id ⟨w.heap.size, 0, sz⟩) v cv ∧ BlkR E.ρ (upd β id ⟨w.heap.size, 0, sz⟩) ⟨w.heap.size, 0, sz⟩ b o

theorem row_BlkR {ρ : Nat → Value} {e : TypeId} {l : List AVal} {vs : Array Value} {B : Nat} (hr : VRs ρ β l vs.toList) (h1 : ∀ u ∈ vs.toList, u.oneCell' = true) :
    BlkR ρ β ⟨B, 0, vs.size⟩ (.cells e l.length 0 (fillT l 0 .e)) (.cells vs e) :=
  ⟨rfl, rfl, rfl, by simpa using cells_fill hr h1, .inl rfl⟩

theorem repeatL_length (z : List AVal) : ∀ k, (repeatL z k).length = k * z.length
  | 0 => by simp [repeatL]
  | k + 1 => by simp [repeatL, repeatL_length z k, Nat.add_mul, Nat.add_comm]
theorem repeatL_get (z : List AVal) (hz : 0 < z.length) : ∀ (k i : Nat), i < k * z.length → (repeatL z k)[i]? = z[i % z.length]?
  | 0, i, hi => by omega
  | k + 1, i, hi => by
    simp only [repeatL]
    by_cases hlt : i < z.length
    · rw [List.getElem?_append_left hlt, Nat.mod_eq_of_lt hlt]
    · rw [List.getElem?_append_right (by omega), repeatL_get z hz k (i - z.length) (by rw [Nat.add_mul] at hi; omega)]
      congr 1
      rw [Nat.mod_eq_sub_mod (show z.length ≤ i by omega)]

theorem repeat_VRs {ρ : Nat → Value} {z : List AVal} {cz : Array Value} (hr : VRs ρ β z cz.toList) (h1 : ∀ u ∈ cz.toList, u.oneCell' = true) (k : Nat) (hz : 0 < z.length) :
    VRs ρ β (repeatL z k) ((Array.range (k * z.length)).map (cz[· % cz.size]!)).toList ∧ ∀ u ∈ ((Array.range (k * z.length)).map (cz[· % cz.size]!)).toList, u.oneCell' = true := by
  have hsz : cz.size = z.length := by rw [hr.length]; simp
  constructor
  · refine VRs.of_get (by simp [repeatL_length]) fun i x hx => ?_
    have hi : i < k * z.length := by
      have := (List.getElem?_eq_some_iff.1 hx).1
      rwa [repeatL_length] at this
    rw [repeatL_get z hz k i hi] at hx
    obtain ⟨v, e1, e2⟩ := hr.get hx
    have e3 : cz[i % cz.size]? = some v := by rw [hsz]; simpa using e1
    exact ⟨v, by simp [hi, getElem!_def, e3], e2⟩
  · intro u hu
    simp only [Array.toList_map, List.mem_map] at hu
    obtain ⟨i, hi, rfl⟩ := hu
    have hlt : i % cz.size < cz.size := Nat.mod_lt _ (by omega)
    have e3 : cz[i % cz.size]? = some cz[i % cz.size] := Array.getElem?_eq_getElem hlt
    rw [getElem!_def, e3]
    exact h1 _ (by simp)

theorem zeroT_all {t : TypeId} {z : AVal} (h : zeroT P t = some z) : ∃ cz, (∃ i, P.info? t = some i ∧ i.zero = some cz) ∧ (∀ w, (zeroValue t).run P w = .ok cz w) ∧ ∀ β : Beta, VR E.ρ β z cz := by
  unfold zeroT at h
  cases hi : P.info? t with
  | none => rw [hi] at h; cases h
  | some i =>
    rw [hi] at h
    simp only [Option.bind_some] at h
    cases hz : i.zero with
    | none => rw [hz] at h; cases h
    | some cz =>
      rw [hz] at h
      exact ⟨cz, ⟨i, rfl, hz⟩, fun w => by simp [zeroValue, typeInfo, hi, hz], fun β => ofConst_sound _ _ _ h⟩

theorem PartsR.mono {β' : Beta} (hx : Ext β β') : ∀ {ps : List (Nat × AVal)} {vs : List (Nat × Value)}, PartsR E β ps vs → PartsR E β' ps vs
  | _, _, .nil => .nil
  | _, _, .cons h hs => .cons (h.mono hx) (PartsR.mono hx hs)

theorem alloc_sound {o : Oper} {id : Nat} {v : AVal} {b : Blk} (hid : β id = none) (hf : FrR E β n fr a) (ha : allocOp P fr id o = some (v, b)) : Makes P E β w (execOp a.eval o) id v b := by
  have hx : ∀ L, Ext β (upd β id L) := fun L => Ext.upd hid
  unfold allocOp at ha
  split at ha <;> rename_i ho
  · -- alloc
    rename_i e
    split at ha
    · rename_i z hz
      cases ht : z.isTuple with
      | true => rw [ht] at ha; cases ha
      | false =>
        rw [ht, cond_false] at ha; simp only [Option.some.injEq, Prod.mk.injEq] at ha
        obtain ⟨rfl, rfl⟩ := ha
        obtain ⟨cz, _, hr, hv⟩ := zeroT_all (E := E) hz
        obtain ⟨hc, h1⟩ := (hv (upd β id ⟨w.heap.size, 0, cz.cells.size⟩)).cells ht
        exact ⟨.pointer (some ⟨w.heap.size, 0, none⟩), w.alloc (.cells cz.cells e), .cells cz.cells e, cz.cells.size, by simp [execOp, ho, Instr.alloc, hr, newVar, newRow], rfl, rfl, rfl, rfl,
          .ptr (upd_same _ _ _), row_BlkR hc h1⟩
    · cases ha
  · -- box
    rename_i e x
    split at ha
    · rename_i y hy
      have hv := opdA_sound hf hy
      cases ht : y.isTuple with
      | true => rw [ht] at ha; cases ha
      | false =>
        rw [ht, cond_false] at ha; simp only [Option.some.injEq, Prod.mk.injEq] at ha
        obtain ⟨rfl, rfl⟩ := ha
        obtain ⟨hc, h1⟩ := (hv.mono (hx ⟨w.heap.size, 0, (a.eval x).cells.size⟩)).cells ht
        exact ⟨.pointer (some ⟨w.heap.size, 0, none⟩), w.alloc (.cells (a.eval x).cells e), .cells (a.eval x).cells e, (a.eval x).cells.size, by simp [execOp, ho, Instr.box, newVar, newRow], rfl, rfl, rfl, rfl,
          .ptr (upd_same _ _ _), row_BlkR hc h1⟩
    · cases ha
  · -- buildSlice
    rename_i t len parts
    split at ha
    · rename_i e he
      cases hlen : Nat.beq len 0 with
      | true =>
        rw [hlen, cond_true] at ha
        have hl0 : len = 0 := Nat.eq_of_beq_eq_true hlen
        subst hl0
        split at ha
        · rename_i size hs hnil
          simp only [Option.some.injEq, Prod.mk.injEq] at ha
          obtain ⟨rfl, rfl⟩ := ha
          have hu : P.underlying t = some (.slice e) := by
            unfold elemSlice und at he
            split at he
            · rename_i e' hu; simp only [Option.some.injEq] at he; subst he; exact hu
            · cases he
          have hp0 : parts = #[] := Array.ext' (by simpa using hnil)
          refine ⟨.slice (some ⟨w.heap.size, 0, none⟩) 0 0, w.alloc (.cells #[] e), .cells #[] e, 0, ?_, rfl, rfl, rfl, rfl, .slice (upd_same _ _ _) (Nat.succ_pos _) (Nat.le_refl _) (Nat.le_refl _) (fun _ => rfl) (by simp), ?_⟩
          · unfold sizeT at hs
            cases hi : P.info? e with
            | none => rw [hi] at hs; cases hs
            | some i =>
              simp [execOp, ho, hp0, Instr.buildSlice, run_underlying hu, sizeOf, typeInfo, hi, Instr.fill, newRow]
              have e0 : Array.range 0 = #[] := rfl
              rw [e0, Array.map_empty]
          · exact ⟨rfl, rfl, rfl, fun i v hv => by simp at hv, .inl rfl⟩
        · cases ha
      | false =>
      rw [hlen, cond_false] at ha
      split at ha
      · rename_i size z ps hs hz hp
        cases hcnd : (z.isTuple || Nat.beq (len * size) 0 || !Nat.ble (len * size) (2 ^ 24) || !Nat.beq z.cells.length size) with
        | true => rw [hcnd] at ha; cases ha
        | false =>
          rw [hcnd, cond_false] at ha
          simp only [Bool.or_eq_false_iff, Bool.not_eq_false'] at hcnd
          obtain ⟨⟨⟨ht, hn0⟩, hle⟩, hzs⟩ := hcnd
          have hne : len * size ≠ 0 := fun e => by rw [e] at hn0; cases hn0
          have hle' := Nat.le_of_ble_eq_true hle
          have hzl := Nat.eq_of_beq_eq_true hzs
          split at ha
          · rename_i cs hcs
            simp only [Option.some.injEq, Prod.mk.injEq] at ha
            obtain ⟨rfl, rfl⟩ := ha
            have hu : P.underlying t = some (.slice e) := by
              unfold elemSlice und at he
              split at he
              · rename_i e' hu; simp only [Option.some.injEq] at he; subst he; exact hu
              · cases he
            obtain ⟨cz, ⟨i, hi, hiz⟩, _, hv⟩ := zeroT_all (E := E) hz
            have hsi : i.size = size := by
              unfold sizeT at hs; rw [hi] at hs; simpa using hs
            have hsz0 : 0 < size := by
              rcases Nat.eq_zero_or_pos size with e0 | e0
              · subst e0; simp at hne
              · exact e0
            have key : ∀ β', Ext β β' → ∃ cout, Instr.fill (fun i => some (i * size, size)) ((Array.range (len * size)).map (cz.cells[· % cz.cells.size]!)) (parts.toList.map fun (i, x) => (i, a.eval x)) = some cout ∧
                VRs E.ρ β' cs cout.toList ∧ (∀ u ∈ cout.toList, u.oneCell' = true) ∧ cout.size = len * size := by
              intro β' hx'
              obtain ⟨hc, h1⟩ := (hv β').cells ht
              have hrep := repeat_VRs hc h1 len (by omega)
              rw [hzl] at hrep
              obtain ⟨cout, g1, g2, g3, g4⟩ := fillP_sound hcs ((partsA_sound hf hp).mono hx') hrep.1 hrep.2
              exact ⟨cout, g1, g2, g3, by rw [g4]; simp⟩
            obtain ⟨cout, g1, _, _, gsz⟩ := key β (Ext.refl β)
            obtain ⟨cout', g1', g2, g3, _⟩ := key (upd β id ⟨w.heap.size, 0, cout.size⟩) (hx _)
            rw [g1] at g1'; cases g1'
            have hcl : cs.length = len * size := by rw [g2.length]; simp [gsz]
            refine ⟨.slice (some ⟨w.heap.size, 0, none⟩) len len, w.alloc (.cells cout e), .cells cout e, cout.size, ?_, rfl, rfl, rfl, rfl, .slice (upd_same _ _ _) hsz0 (Nat.le_refl _) (Nat.le_refl _) (fun _ => rfl) (by simp [gsz]), ?_⟩
            · have hrb := run_buildSlice (P := P) w t e len (parts.map fun (i, x) => (i, a.eval x)) cout i cz hu hi hiz (by rw [hsi]; omega) (by rw [hsi]; exact hne) (by rw [hsi]; simpa using g1)
              simp only [execOp, ho, Sem.run_bind, hrb, Result.andThen_ok, Sem.run_pure]
            · have := row_BlkR (B := w.heap.size) (e := e) g2 g3
              rw [hcl] at this; exact this
          · cases ha
      · cases ha
    · cases ha
  · -- makeMap
    simp only [Option.some.injEq, Prod.mk.injEq] at ha
    obtain ⟨rfl, rfl⟩ := ha
    exact ⟨.map (some w.heap.size), w.alloc (.map #[] 0), .map #[] 0, 0, by simp [execOp, ho, Instr.makeMap], rfl, rfl, rfl, rfl, .map (upd_same β id ⟨w.heap.size, 0, 0⟩), rfl, rfl, trivial⟩
  · -- range over a text
    rename_i t x
    split at ha
    · rename_i k c hu hy
      have hv := opdA_sound hf hy
      generalize hcx : a.eval x = cx at hv
      cases hv with | @str _ _ s h1 h2 =>
      simp only [Option.some.injEq, Prod.mk.injEq] at ha
      obtain ⟨rfl, rfl⟩ := ha
      exact ⟨.pointer (some ⟨w.heap.size, 0, none⟩), w.alloc (.stringIter s 0), .stringIter s 0, 0, by simp [execOp, ho, hcx, Instr.range, run_underlying hu], rfl, rfl, rfl, rfl,
        .ptr (upd_same _ _ _), rfl, rfl, h1, h2⟩
    · cases ha
  · cases ha
end
end Go.Ae
/- Operations that write: stores into rows, appends. -/
set_option linter.unusedSimpArgs false
set_option linter.unusedVariables false
set_option maxHeartbeats 1000000
namespace Go.Ae
open Go

section
variable {P : Program} {E : Env} {β : Beta} {h : Hp} {w : World}

/-- What two worlds agree in, but for one block. -/
structure OneBlk (g : Nat) (w w' : World) : Prop where
  other : ∀ k, k ≠ g → w'.heap[k]? = w.heap[k]?
  size : w'.heap.size = w.heap.size
  os : w'.os = w.os
  tape : w'.tape = w.tape
  output : w'.output = w.output
theorem OneBlk.refl (g : Nat) (w : World) : OneBlk g w w := ⟨fun _ _ => rfl, rfl, rfl, rfl, rfl⟩
theorem OneBlk.trans {g : Nat} {w w' w'' : World} (x : OneBlk g w w') (y : OneBlk g w' w'') : OneBlk g w w'' :=
  ⟨fun k hk => (y.other k hk).trans (x.other k hk), y.size.trans x.size, y.os.trans x.os, y.tape.trans x.tape, y.output.trans x.output⟩

theorem setCell_one (w : World) (g o : Nat) (v : Value) : OneBlk g w (w.setCell ⟨g, o, none⟩ v) :=
  ⟨fun k hk => heap_setCell_other w ⟨g, o, none⟩ k v hk, by simp, rfl, rfl, rfl⟩
theorem setCell_row {g o : Nat} {v : Value} {c : Array Value} {e : TypeId} {f : Nat × Nat} (hw : w.heap[g]? = some (.cells c e f)) :
    (w.setCell ⟨g, o, none⟩ v).heap[g]? = some (.cells (c.setIfInBounds o v) e f) := by
  have hlt : g < w.heap.size := (Array.getElem?_eq_some_iff.1 hw).1
  simp [World.setCell, Array.getElem?_modify, hw]

/-- Cells stored one behind the other into a row. -/
theorem run_storeRow (g o : Nat) (e : TypeId) (f : Nat × Nat) : ∀ (vs : List Value) (i : Nat) (cur : Array Value) (w : World), w.heap[g]? = some (.cells cur e f) → (f.1 = f.2 ∨ f.2 ≤ o + i) → o + i + vs.length ≤ cur.size →
    (∀ v ∈ vs, v.oneCell' = true) → ∃ w' cur', (storeCells ⟨g, o, none⟩ vs i).run P w = .ok () w' ∧ w'.heap[g]? = some (.cells cur' e f) ∧ cur'.size = cur.size ∧
      (∀ k, cur'[k]? = if o + i ≤ k ∧ k < o + i + vs.length then vs[k - (o + i)]? else cur[k]?) ∧ OneBlk g w w'
  | [], i, cur, w, hw, hf, hl, h1 => ⟨w, cur, rfl, hw, rfl, fun k => by rw [if_neg (by simp)], .refl g w⟩
  | v :: vs, i, cur, w, hw, hf, hl, h1 => by
    simp only [List.length_cons] at hl
    have hlt : o + i < cur.size := by omega
    have hcell : w.cell? ⟨g, o + i, none⟩ = some cur[o + i] := by rw [cell_at hw]; exact Array.getElem?_eq_getElem hlt
    have hfr : w.frozen? ⟨g, o + i, none⟩ = false := by
      simp only [World.frozen?, hw]
      rcases hf with e | e
      · simp [e]
      · simp; omega
    have hst : (store ((⟨g, o, none⟩ : Addr).add i) v).run P w = .ok () (w.setCell ⟨g, o + i, none⟩ v) := by
      rw [Addr.add_lit, run_store P w _ v .plain (h1 v (by simp)), hcell]
      simp [hfr]
    obtain ⟨w', cur', g1, g2, g3, g4, g5⟩ := run_storeRow g o e f vs (i + 1) (cur.setIfInBounds (o + i) v) (w.setCell ⟨g, o + i, none⟩ v) (setCell_row hw) (by rcases hf with e | e; exact .inl e; exact .inr (by omega))
      (by simp; omega) (fun u hu => h1 u (by simp [hu]))
    refine ⟨w', cur', ?_, g2, by simpa using g3, fun k => ?_, (setCell_one w g (o + i) v).trans g5⟩
    · simp only [storeCells, Sem.run_bind, hst, Result.andThen_ok]; exact g1
    · rw [g4 k]
      by_cases e0 : k = o + i
      · subst e0
        rw [if_neg (by omega), if_pos (by simp)]
        simp [hlt]
      · by_cases e1 : o + (i + 1) ≤ k ∧ k < o + (i + 1) + vs.length
        · rw [if_pos e1, if_pos (by simp only [List.length_cons]; omega)]
          have : k - (o + i) = (k - (o + (i + 1))) + 1 := by omega
          rw [this, List.getElem?_cons_succ]
        · rw [if_neg e1, if_neg (by simp only [List.length_cons]; omega), Array.getElem?_setIfInBounds_ne (by omega)]

theorem cells_write {ρ : Nat → Value} {sh ext off : Nat} {t : T AVal} {c c' : Array Value} {l : List AVal} {vs : List Value} {ext' : Nat} (hc : CellsR ρ β sh ext t c) (hr : VRs ρ β l vs) (h1 : ∀ u ∈ vs, u.oneCell' = true)
    (hg : ∀ k, c'[k]? = if sh + off ≤ k ∧ k < sh + off + vs.length then vs[k - (sh + off)]? else c[k]?) (he : ext ≤ ext') (he' : off + l.length ≤ ext') : CellsR ρ β sh ext' (fillT l off t) c' := by
  have hl := hr.length
  intro i v hi
  rw [get_fillT] at hi
  split at hi
  · rename_i hlt
    obtain ⟨cv, e1, e2⟩ := hr.get hi
    refine ⟨by omega, cv, ?_, e2, h1 cv (List.mem_of_getElem? e1)⟩
    rw [hg, if_pos (by omega), ← e1]; congr 1; omega
  · rename_i hlt
    obtain ⟨g1, cv, g2, g3, g4⟩ := hc i v hi
    refine ⟨by omega, cv, ?_, g3, g4⟩
    rw [hg, if_neg (by omega)]; exact g2

/-- What an effect comes to. -/
def Does (P : Program) (E : Env) (β : Beta) (h : Hp) (w : World) (s : Sem Next) (v : AVal) (h' : Hp) : Prop :=
  ∃ nx cv β' w', s.run P w = .ok nx w' ∧ (nx = .value cv ∨ (nx = .skip ∧ cv = undef)) ∧ VR E.ρ β' v cv ∧ Rel E β' h' w' ∧ Frm β h w β' h' w'

theorem Rel.writeRow (r : Rel E β h w) {w' : World} {b : Nat} {x : Blk} {L : Loc} (hb : h.get b = some x) (hL : β b = some L) (ho : OneBlk L.blk w w') {x' : Blk} {o' : Obj} (hw : w'.heap[L.blk]? = some o') (hB : BlkR E.ρ β L x' o') :
    Rel E β (h.put b x') w' ∧ Frm β h w β (h.put b x') w' :=
  ⟨r.write hb hL ho.other ho.size hw hB, Frm.write r hb hL ho.other ho.size ho.os ho.tape ho.output⟩

theorem store_sound (r : Rel E β h w) {t : TypeId} {p v : AVal} {cp cv : Value} {h' : Hp} (hs : storeA P h t p v = some h') (hp : VR E.ρ β p cp) (hv : VR E.ρ β v cv) :
    ∃ w', (Instr.storeAt t cp cv).run P w = .ok () w' ∧ Rel E β h' w' ∧ Frm β h w β h' w' := by
  unfold storeA at hs
  split at hs
  · rename_i b off
    cases hp with | @ptr _ _ L hL =>
    split at hs
    · rename_i e ext fz c n hb hsz
      cases hcnd : (!v.isTuple && Nat.beq v.cells.length n && !Nat.beq n 0 && Nat.ble fz off && known c n off) with
      | false => rw [hcnd] at hs; cases hs
      | true =>
        rw [hcnd, cond_true] at hs; simp only [Option.some.injEq] at hs; subst hs
        simp only [Bool.and_eq_true, Bool.not_eq_true'] at hcnd
        obtain ⟨⟨⟨⟨g1, g2⟩, g3⟩, g4⟩, g5⟩ := hcnd
        have g2' := Nat.eq_of_beq_eq_true g2
        have g3' : n ≠ 0 := fun e => by rw [e] at g3; cases g3
        have g4' := Nat.le_of_ble_eq_true g4
        obtain ⟨h0, ca, f, hw, hsize, hc, hfr⟩ := r.row hb hL
        obtain ⟨hvc, hone⟩ := hv.cells g1
        have hvl : cv.cells.size = n := by rw [← g2', hvc.length]; simp
        obtain ⟨y, hy⟩ := known_spec _ _ _ g5 (n - 1) (by omega)
        obtain ⟨cy, e1, _, _⟩ := hc.at hy
        have hin := (Array.getElem?_eq_some_iff.1 e1).1
        obtain ⟨w', cur', k1, k2, k3, k4, k5⟩ := run_storeRow (P := P) L.blk (L.sh + off) e f cv.cells.toList 0 ca w hw (by rcases hfr with e | e; exact .inl e; exact .inr (by omega)) (by simp; omega) hone
        refine ⟨w', ?_, r.writeRow hb hL k5 k2 ?_⟩
        · have : ¬ cv.cells.size ≠ n := by omega
          simp [Instr.storeAt, Instr.sureAddr, storeVar, sizeT_sound hsz, hvl, k1]
        · refine ⟨h0, rfl, by omega, ?_, hfr⟩
          exact cells_write hc hvc hone (fun k => by simpa using k4 k) (Nat.le_max_left _ _) (by rw [g2']; exact Nat.le_max_right _ _)
    · cases hs
  · cases hs
end
end Go.Ae
/- append. -/
set_option linter.unusedSimpArgs false
set_option linter.unusedVariables false
set_option maxHeartbeats 1000000
namespace Go.Ae
open Go

section
variable {P : Program} {E : Env} {β : Beta} {h : Hp} {w : World}

/-- The cells of what is appended or copied. -/
structure Src (P : Program) (E : Env) (β : Beta) (w : World) (size n : Nat) (l : List AVal) (cx : Value) (vs : List Value) : Prop where
  run : (Builtin.firstCells size n cx).run P w = .ok vs.toArray w
  rel : VRs E.ρ β l vs
  one : ∀ u ∈ vs, u.oneCell' = true
  len : vs.length = n * size

theorem bytesL_sound : ∀ (n c : Nat), VRs E.ρ β (bytesL n c) ((decode n c).map fun b => Value.int .u8 b.toNat)
  | 0, c => .nil
  | n + 1, c => by
    simp only [bytesL, decode, List.map_cons]
    refine .cons ?_ (bytesL_sound n (c / 256))
    have hb8 : (UInt8.ofNat (c % 256)).toNat = c % 256 := by rw [UInt8.toNat_ofNat']; exact Nat.mod_eq_of_lt (Nat.mod_lt _ (by omega))
    rw [hb8]
    exact .int _ _

theorem src_sound (r : Rel E β h w) {size n : Nat} {x : AVal} {l : List AVal} {cx : Value} (hc : cellsOfA h size n x = some l) (hx : VR E.ρ β x cx) (hn : n ≤ (lenA x).getD 0) : ∃ vs, Src P E β w size n l cx vs := by
  unfold cellsOfA at hc
  split at hc
  · rename_i b off len cap ex sz
    cases hx with | @slice _ _ _ _ _ c _ L hL hs hl hcap he hz =>
    cases h1 : Nat.beq sz size with
    | false => rw [h1] at hc; cases hc
    | true =>
      rw [h1, cond_true] at hc
      split at hc
      · rename_i e ext fz t hb
        obtain ⟨h0, ca, f, hw, hsize, hcr, hfr⟩ := r.row hb hL
        obtain ⟨vs, e1, e2, e3, e4⟩ := read_cells hcr hc
        refine ⟨vs, ?_, e2, e3, e1⟩
        have := run_firstCells_some (P := P) w size n ⟨L.blk, L.sh + off, none⟩ len c vs e1 fun j v hv => by rw [Addr.add_lit, cell_at hw]; exact e4 j v hv
        exact this
      · cases hc
  · cases hx
    cases h1 : Nat.beq n 0 with
    | false => rw [h1] at hc; cases hc
    | true =>
      rw [h1, cond_true] at hc; simp only [Option.some.injEq] at hc; subst hc
      have := Nat.eq_of_beq_eq_true h1; subst this
      exact ⟨[], rfl, .nil, by simp, by simp⟩
  · rename_i k c
    cases hx with | @str _ _ s h1 h2 =>
    cases h3 : Nat.beq size 1 with
    | false => rw [h3] at hc; cases hc
    | true =>
      rw [h3, cond_true] at hc; simp only [Option.some.injEq] at hc; subst hc
      have := Nat.eq_of_beq_eq_true h3; subst this
      simp only [lenA, Option.getD_some] at hn
      refine ⟨(decode n c).map fun b => Value.int .u8 b.toNat, ?_, bytesL_sound n c, fun u hu => ?_, by simp⟩
      · have he : (s.extract 0 n).data.toList = decode n c := by
          rw [Lib.extract_data, h1, List.drop_zero, Nat.sub_zero, decode_take _ _ _ hn]
        simp only [Builtin.firstCells, Sem.run_pure]
        congr 1
        apply Array.ext'
        rw [Array.toList_map, he]
      · simp only [List.mem_map] at hu
        obtain ⟨b, _, rfl⟩ := hu
        rfl
  · cases hc

theorem lenA_sound {x : AVal} {cx : Value} {m : Nat} (hl : lenA x = some m) (hx : VR E.ρ β x cx) (w : World) : (Builtin.lenOf cx).run P w = .ok m w := by
  unfold lenA at hl
  split at hl
  · cases hx; simp only [Option.some.injEq] at hl; subst hl; rfl
  · cases hx; simp only [Option.some.injEq] at hl; subst hl; rfl
  · cases hx with | @str _ _ s h1 h2 => 
    simp only [Option.some.injEq] at hl; subst hl
    simp [Builtin.lenOf, size_of_data h1]
  · cases hl

/-- append where there is room. -/
theorem run_append_in {t xt ty e : TypeId} {td : TypeDesc} {i : TypeInfo} (ht : P.underlying t = some (.slice e)) (hxt : P.underlying xt = some td) (hnot : ∀ k, td ≠ .int k) (hi : P.info? e = some i)
    {base : Option Addr} {sLen sCap m : Nat} {cx : Value} {vs : List Value} (hlen : (Builtin.lenOf cx).run P w = .ok m w) (hfc : (Builtin.firstCells i.size m cx).run P w = .ok vs.toArray w) (hroom : sLen + m ≤ sCap) :
    (Builtin.append_ #[t, xt] ty #[.slice base sLen sCap, cx]).run P w = ((match base with
      | some a => (storeCells (a.add (sLen * i.size)) vs).run P w
      | none => .ok () w).andThen fun _ w' => .ok (.slice base (sLen + m) sCap) w') := by
  cases base <;> simp [Builtin.append_, run_underlying ht, sizeOf, typeInfo, hi, hlen, hroom, hfc, run_underlying hxt]

/-- append where there is none: a new row. -/
theorem run_append_out {t xt ty e : TypeId} {td : TypeDesc} {i : TypeInfo} {z : Value} (ht : P.underlying t = some (.slice e)) (hxt : P.underlying xt = some td) (hnot : ∀ k, td ≠ .int k) (hi : P.info? e = some i) (hz : i.zero = some z)
    {base : Option Addr} {sLen sCap m : Nat} {cx : Value} {vs olds : List Value} (hlen : (Builtin.lenOf cx).run P w = .ok m w) (hold : (Builtin.firstCells i.size sLen (.slice base sLen sCap)).run P w.drew = .ok olds.toArray w.drew)
    (hfc : (Builtin.firstCells i.size m cx).run P w.drew = .ok vs.toArray w.drew) (hroom : sCap < sLen + m) (hb : 0 < i.bytes) (hfit : (sLen + m) * i.bytes ≤ 140737488355328) :
    (Builtin.append_ #[t, xt] ty #[.slice base sLen sCap, cx]).run P w = .ok (.slice (some ⟨w.heap.size, 0, none⟩) (sLen + m) (grownCap w (sLen + m) sCap e))
      (w.drew.alloc (.cells (olds.toArray ++ vs.toArray ++ Builtin.zeroCells z.cells (grownCap w (sLen + m) sCap e - (sLen + m))) e)) := by
  have h1 : ¬ sLen + m ≤ sCap := by omega
  have h2 := growslice_fits hroom hfit
  have h3 : ¬ Builtin.nextslicecap (sLen + m) sCap * i.bytes > 2 ^ 48 := by omega
  have h5 : i.bytes ≠ 0 := by omega
  have h4 : ¬ (((sLen + m : Nat) : Int) > IntKind.i64.max ∧ (False ∨ i.bytes = 0)) := by simp [h5]
  have hf : (Question.appendCap (sLen + m) sCap e).forced = false := rfl
  have h6 : ¬ (281474976710656 < Builtin.nextslicecap (sLen + m) sCap * i.bytes) := by omega
  simp [Builtin.append_, run_underlying ht, sizeOf, typeInfo, zeroValue, hi, hz, hlen, run_underlying hxt, h1, h5, h6, Question.forced, hold, hfc, newRow, grownCap]
  congr 2
  apply Array.ext'
  simp [List.append_assoc]

/-- The cells of a row's head, known and unknown. -/
theorem head_cells {ρ : Nat → Value} {ext off n : Nat} {t t' : T AVal} {c : Array Value} (hc : CellsR ρ β 0 ext t c) (hh : headT t ext off n = some t') (hin : off + n ≤ c.size) :
    ∀ i v, t'.get i = some v → i < n ∧ ∃ cv, ((c.toList.drop off).take n)[i]? = some cv ∧ VR ρ β v cv ∧ cv.oneCell' = true := by
  intro i v hi
  unfold headT at hh
  cases hcnd : (Nat.beq off 0 && Nat.ble ext n) with
  | true =>
    rw [hcnd, cond_true] at hh; simp only [Option.some.injEq] at hh; subst hh
    simp only [Bool.and_eq_true] at hcnd
    have e0 := Nat.eq_of_beq_eq_true hcnd.1
    have e1 := Nat.le_of_ble_eq_true hcnd.2
    subst e0
    obtain ⟨g1, cv, g2, g3, g4⟩ := hc i v hi
    refine ⟨by omega, cv, ?_, g3, g4⟩
    rw [List.getElem?_take, if_pos (by omega)]
    simpa using g2
  | false =>
    rw [hcnd, cond_false] at hh
    cases hr : readT t n off with
    | none => rw [hr] at hh; cases hh
    | some l =>
      rw [hr] at hh; simp only [Option.map_some, Option.some.injEq] at hh; subst hh
      obtain ⟨h1, h2⟩ := readT_some n off t l hr
      rw [get_fillT] at hi
      split at hi
      · rename_i hlt
        simp only [Nat.sub_zero] at hi
        have hi' : i < n := by omega
        have hg := h2 i hi'
        rw [hi] at hg
        obtain ⟨_, cv, g2, g3, g4⟩ := hc _ _ hg
        refine ⟨hi', cv, ?_, g3, g4⟩
        rw [List.getElem?_take, if_pos hi', List.getElem?_drop]
        simpa using g2
      · simp at hi

/-- The new row of an append: the head, what is new behind it, and spare room. -/
theorem grown_cells {ρ : Nat → Value} {n : Nat} {t' : T AVal} {olds news rest : List Value} {l : List AVal} (ho : olds.length = n)
    (hh : ∀ i v, t'.get i = some v → i < n ∧ ∃ cv, olds[i]? = some cv ∧ VR ρ β v cv ∧ cv.oneCell' = true) (hr : VRs ρ β l news) (h1 : ∀ u ∈ news, u.oneCell' = true) :
    CellsR ρ β 0 (n + l.length) (fillT l n t') (olds ++ news ++ rest).toArray := by
  have hl := hr.length
  intro i v hi
  rw [get_fillT] at hi
  split at hi
  · rename_i hlt
    obtain ⟨cv, e1, e2⟩ := hr.get hi
    refine ⟨by omega, cv, ?_, e2, h1 cv (List.mem_of_getElem? e1)⟩
    simp only [Nat.zero_add, List.getElem?_toArray]
    rw [List.getElem?_append_left (by simp; omega), List.getElem?_append_right (by omega), ho]
    exact e1
  · obtain ⟨g1, cv, g2, g3, g4⟩ := hh i v hi
    refine ⟨by omega, cv, ?_, g3, g4⟩
    simp only [Nat.zero_add, List.getElem?_toArray]
    rw [List.getElem?_append_left (by simp; omega), List.getElem?_append_left (by omega)]
    exact g2

theorem Frm.drew : Frm β h w β h w.drew := Frm.of_heap rfl rfl rfl rfl

/-- A new row behind an append, on both sides. -/
theorem grown_rel (r : Rel E β h w) {e : TypeId} {size need n : Nat} {t' : T AVal} {olds vs : List Value} {new : List AVal} {z : Value} {cap fz : Nat} (ho : olds.length = n)
    (hh : ∀ β', Ext β β' → ∀ i v, t'.get i = some v → i < n ∧ ∃ cv, olds[i]? = some cv ∧ VR E.ρ β' v cv ∧ cv.oneCell' = true) (hr : VRs E.ρ β new vs) (h1 : ∀ u ∈ vs, u.oneCell' = true)
    (hz : z.cells.size = size) (hs0 : 0 < size) (hn : n + vs.length = need * size) (hcap : need ≤ cap) :
    ∃ β', VR E.ρ β' (.slice h.next 0 need need false size) (.slice (some ⟨w.heap.size, 0, none⟩) need cap) ∧
      Rel E β' (h.new (.cells e (need * size) fz (fillT new n t'))) (w.drew.alloc (.cells (olds.toArray ++ vs.toArray ++ Builtin.zeroCells z.cells (cap - need)) e)) ∧
      Frm β h w β' (h.new (.cells e (need * size) fz (fillT new n t'))) (w.drew.alloc (.cells (olds.toArray ++ vs.toArray ++ Builtin.zeroCells z.cells (cap - need)) e)) := by
  have hnone : β h.next = none := r.fresh _ (Nat.le_refl _)
  have harr : olds.toArray ++ vs.toArray ++ Builtin.zeroCells z.cells (cap - need) = (olds ++ vs ++ (Builtin.zeroCells z.cells (cap - need)).toList).toArray := by
    apply Array.ext'; simp
  have hsz : (olds.toArray ++ vs.toArray ++ Builtin.zeroCells z.cells (cap - need)).size = cap * size := by
    simp only [Array.size_append, List.size_toArray, size_zeroCells, hz, ho]
    rw [hn, ← Nat.add_mul]; congr 1; omega
  have hnl : new.length = vs.length := hr.length
  refine ⟨upd β h.next ⟨w.heap.size, 0, cap * size⟩, .slice (upd_same _ _ _) hs0 (Nat.le_refl _) hcap (fun e => by cases e) (by simp), ?_, ?_⟩
  · refine r.push (id := h.next) (next := h.next + 1) hnone rfl (Nat.le_succ _) (Nat.lt_succ_self _) ⟨rfl, rfl, hsz, ?_, .inl rfl⟩
    rw [harr]
    have hx : Ext β (upd β h.next ⟨w.heap.size, 0, cap * size⟩) := Ext.upd hnone
    have := grown_cells (rest := (Builtin.zeroCells z.cells (cap - need)).toList) ho (hh _ hx) (hr.mono hx) h1
    rw [hnl, hn] at this
    exact this
  · exact Frm.push r rfl rfl rfl rfl

theorem append_sound (r : Rel E β h w) {t xt ty : TypeId} {s x v : AVal} {cs cx : Value} {h' : Hp} (ha : appendOp P t xt s x h = some (v, h')) (hs : VR E.ρ β s cs) (hx : VR E.ρ β x cx) :
    ∃ cv β' w', (Builtin.append_ #[t, xt] ty #[cs, cx]).run P w = .ok cv w' ∧ VR E.ρ β' v cv ∧ Rel E β' h' w' ∧ Frm β h w β' h' w' := by
  unfold appendOp und at ha
  split at ha
  · cases ha
  · rename_i e td hnot ht hxt
    split at ha
    · rename_i size bytes m hsz hby hlx
      split at ha
      · rename_i new hcs
        cases hzz : zeroT P e with
        | none => rw [hzz] at ha; cases ha
        | some zz =>
        rw [hzz] at ha; simp only at ha
        cases hzc : (!zz.isTuple && Nat.beq zz.cells.length size) with
        | false => rw [hzc] at ha; cases ha
        | true =>
        rw [hzc, cond_true] at ha
        simp only [Bool.and_eq_true, Bool.not_eq_true'] at hzc
        obtain ⟨z, ⟨i, hi, hiz⟩, _, hzv⟩ := zeroT_all (E := E) hzz
        have hzs : z.cells.size = size := by
          have := ((hzv β).cells hzc.1).1.length
          rw [Nat.eq_of_beq_eq_true hzc.2] at this; simpa using this.symm
        have hisz : i.size = size := by unfold sizeT at hsz; rw [hi] at hsz; simpa using hsz
        have hiby : i.bytes = bytes := by unfold bytesT at hby; rw [hi] at hby; simpa using hby
        obtain ⟨vs0, hsrc0⟩ := src_sound (P := P) r hcs hx (by rw [hlx]; simp)
        have hdrew : Rel E β h w.drew := r.of_heap rfl
        obtain ⟨vs, hsrc⟩ := src_sound (P := P) hdrew hcs hx (by rw [hlx]; simp)
        have hlen := lenA_sound (P := P) hlx hx w
        have hnl : new.length = m * size := by rw [hsrc.rel.length]; exact hsrc.len
        have hnot' : ∀ k, td ≠ .int k := fun k e => hnot k e
        unfold appendA at ha
        cases hc0 : (Nat.beq size 0 || Nat.beq bytes 0) with
        | true => rw [hc0] at ha; cases ha
        | false =>
        rw [hc0, cond_false] at ha
        simp only [Bool.or_eq_false_iff] at hc0
        have hs0 : 0 < size := by
          rcases Nat.eq_zero_or_pos size with e0 | e0
          · subst e0; simp at hc0
          · exact e0
        have hb0 : 0 < bytes := by
          rcases Nat.eq_zero_or_pos bytes with e0 | e0
          · subst e0; simp at hc0
          · exact e0
        split at ha
        · -- nil
          cases hs
          cases hm : Nat.beq m 0 with
          | true =>
            rw [hm, cond_true] at ha; simp only [Option.some.injEq, Prod.mk.injEq] at ha
            obtain ⟨rfl, rfl⟩ := ha
            have hm0 := Nat.eq_of_beq_eq_true hm; subst hm0
            exact ⟨.slice none 0 0, β, w, run_append_in ht hxt hnot' hi hlen (by rw [hisz]; exact hsrc0.run) (by omega), .nilslice, r, .refl _ _ _⟩
          | false =>
            rw [hm, cond_false] at ha
            have hm0 : m ≠ 0 := fun e => by rw [e] at hm; cases hm
            cases hle : Nat.ble (m * bytes) room with
            | false => rw [hle] at ha; cases ha
            | true =>
              rw [hle, cond_true] at ha; simp only [Option.some.injEq, Prod.mk.injEq] at ha
              obtain ⟨rfl, rfl⟩ := ha
              have hle' := Nat.le_of_ble_eq_true hle
              have hrun := run_append_out (P := P) (w := w) (ty := ty) (olds := []) ht hxt hnot' hi hiz (base := none) (sLen := 0) (sCap := 0) hlen (by simp [Builtin.firstCells]) (by rw [hisz]; exact hsrc.run) (by omega) (by omega) (by rw [hiby]; simpa [room] using hle')
              have hge := grownCap_ge w (0 + m) 0 e
              simp only [Nat.zero_add] at hrun hge
              obtain ⟨β', g1, g2, g3⟩ := grown_rel r (e := e) (need := m) (olds := []) (n := 0) (t' := .e) (fz := 0) rfl (fun _ _ i v hi => by simp at hi) hsrc.rel hsrc.one hzs hs0 (by simpa using hsrc.len) hge
              exact ⟨_, β', _, hrun, g1, g2, g3⟩
        · -- a row
          rename_i b off len cap exact sz
          cases hs with | @slice _ _ _ _ _ c _ L hL hsz0 hl hcap hex hz =>
          cases hsq : Nat.beq sz size with
          | false => rw [hsq] at ha; cases ha
          | true =>
          rw [hsq, cond_true] at ha
          have := Nat.eq_of_beq_eq_true hsq; subst this
          split at ha
          · rename_i eb ext fz tr hb
            obtain ⟨h0, ca, f, hw, hsize, hcr, hfr⟩ := r.row hb hL
            cases hrm : Nat.ble (len + m) cap with
            | true =>
              rw [hrm, cond_true] at ha
              have hrm' := Nat.le_of_ble_eq_true hrm
              cases hfz : Nat.ble fz (off + len * sz) with
              | false => rw [hfz] at ha; cases ha
              | true =>
                rw [hfz, cond_true] at ha; simp only [Option.some.injEq, Prod.mk.injEq] at ha
                obtain ⟨rfl, rfl⟩ := ha
                have hfz' := Nat.le_of_ble_eq_true hfz
                have hin : L.sh + off + len * sz + m * sz ≤ ca.size := by
                  have : (len + m) * sz ≤ c * sz := Nat.mul_le_mul_right _ (by omega)
                  rw [Nat.add_mul] at this; omega
                obtain ⟨w', cur', k1, k2, k3, k4, k5⟩ := run_storeRow (P := P) L.blk (L.sh + off + len * sz) eb f vs0 0 ca w hw (by rcases hfr with e | e; exact .inl e; exact .inr (by omega)) (by rw [hsrc0.len]; omega) hsrc0.one
                have hrun := run_append_in (P := P) (w := w) (ty := ty) ht hxt hnot' hi (base := some ⟨L.blk, L.sh + off, none⟩) (sLen := len) (sCap := c) hlen (by rw [hisz]; exact hsrc0.run) (by omega)
                simp only [Addr.add_lit, hisz, k1, Result.andThen_ok] at hrun
                obtain ⟨q1, q2⟩ := r.writeRow hb hL k5 k2 (x' := .cells eb (Nat.max ext (off + len * sz + m * sz)) fz (fillT new (off + len * sz) tr)) ⟨h0, rfl, by omega, by
                  refine cells_write hcr hsrc0.rel hsrc0.one (fun k => ?_) (Nat.le_max_left _ _) (by rw [hnl]; exact Nat.le_max_right _ _)
                  have := k4 k
                  rw [Nat.add_zero] at this
                  rw [this, Nat.add_assoc L.sh off], hfr⟩
                exact ⟨_, β, w', hrun, .slice hL hs0 hrm' hcap hex hz, q1, q2⟩
            | false =>
              rw [hrm, cond_false] at ha
              have hrm' : ¬ len + m ≤ cap := fun e => by rw [Nat.ble_eq_true_of_le e] at hrm; cases hrm
              cases hc1 : (Nat.ble ((len + m) * bytes) room && Nat.beq eb e) with
              | false => rw [hc1] at ha; cases ha
              | true =>
                rw [hc1, cond_true] at ha
                simp only [Bool.and_eq_true] at hc1
                have hfit := Nat.le_of_ble_eq_true hc1.1
                have := Nat.eq_of_beq_eq_true hc1.2; subst this
                have hlz : len * sz ≤ c * sz := Nat.mul_le_mul_right _ (by omega)
                split at ha
                · rename_i t' hht
                  -- the elder cells
                  have holds : ∀ w2 : World, w2.heap = w.heap → (Builtin.firstCells i.size len (.slice (some ⟨L.blk, L.sh + off, none⟩) len c)).run P w2 = .ok ((ca.toList.drop off).take (len * sz)).toArray w2 := by
                    intro w2 hw2
                    refine run_firstCells_some (P := P) w2 i.size len ⟨L.blk, L.sh + off, none⟩ len c _ (by rw [hisz]; simp; omega) fun j v hv => ?_
                    have hw' : w2.heap[L.blk]? = some (.cells ca eb f) := by rw [hw2]; exact hw
                    rw [Addr.add_lit, cell_at hw']
                    rw [List.getElem?_take] at hv
                    split at hv
                    · rw [List.getElem?_drop] at hv
                      rw [h0, Nat.zero_add]; simpa using hv
                    · cases hv
                  have hlo : ((ca.toList.drop off).take (len * sz)).length = len * sz := by simp; omega
                  have hcr0 : CellsR E.ρ β 0 ext tr ca := by rw [← h0]; exact hcr
                  have hhead : ∀ β', Ext β β' → ∀ i v, t'.get i = some v → i < len * sz ∧ ∃ cv, ((ca.toList.drop off).take (len * sz))[i]? = some cv ∧ VR E.ρ β' v cv ∧ cv.oneCell' = true :=
                    fun β' hx' => head_cells (hcr0.mono hx') hht (by omega)
                  -- where there is no room
                  have hgrow : ∀ (hk : Hp), Rel E β hk w → c < len + m → hk.next = h.next → ∀ fz', ∃ cv β' w', (Builtin.append_ #[t, xt] ty #[.slice (some ⟨L.blk, L.sh + off, none⟩) len c, cx]).run P w = .ok cv w' ∧
                      VR E.ρ β' (.slice h.next 0 (len + m) (len + m) false sz) cv ∧ Rel E β' (hk.new (.cells eb ((len + m) * sz) fz' (fillT new (len * sz) t'))) w' ∧ Frm β hk w β' (hk.new (.cells eb ((len + m) * sz) fz' (fillT new (len * sz) t'))) w' := by
                    intro hk rk hlt hnx fz'
                    have hrun := run_append_out (P := P) (w := w) (ty := ty) ht hxt hnot' hi hiz (base := some ⟨L.blk, L.sh + off, none⟩) (sLen := len) (sCap := c) hlen (holds w.drew rfl) (by rw [hisz]; exact hsrc.run) hlt (by omega) (by rw [hiby]; simpa [room] using hfit)
                    obtain ⟨β', g1, g2, g3⟩ := grown_rel rk (e := eb) (need := len + m) (n := len * sz) (t' := t') (fz := fz') hlo hhead hsrc.rel hsrc.one hzs hs0 (by rw [hsrc.len, Nat.add_mul]) (grownCap_ge w (len + m) c eb)
                    exact ⟨_, β', _, hrun, by rw [← hnx]; exact g1, g2, g3⟩
                  cases hex' : exact with
                  | true =>
                    rw [hex', cond_true] at ha; simp only [Option.some.injEq, Prod.mk.injEq] at ha
                    obtain ⟨rfl, rfl⟩ := ha
                    have := hex hex'
                    exact hgrow h r (by omega) rfl 0
                  | false =>
                    rw [hex', cond_false] at ha
                    cases hc2 : (Nat.ble fz (len * sz) && Nat.beq off 0) with
                    | false => rw [hc2] at ha; cases ha
                    | true =>
                      rw [hc2, cond_true] at ha; simp only [Option.some.injEq, Prod.mk.injEq] at ha
                      obtain ⟨rfl, rfl⟩ := ha
                      simp only [Bool.and_eq_true] at hc2
                      have hfz' := Nat.le_of_ble_eq_true hc2.1
                      have hoff := Nat.eq_of_beq_eq_true hc2.2
                      subst hoff
                      by_cases hin : len + m ≤ c
                      · -- in its place
                        have hle2 : L.sh + 0 + len * sz + m * sz ≤ ca.size := by
                          have : (len + m) * sz ≤ c * sz := Nat.mul_le_mul_right _ hin
                          rw [Nat.add_mul] at this; omega
                        obtain ⟨w', cur', k1, k2, k3, k4, k5⟩ := run_storeRow (P := P) L.blk (L.sh + 0 + len * sz) eb f vs0 0 ca w hw (by rcases hfr with e | e; exact .inl e; exact .inr (by omega)) (by rw [hsrc0.len]; omega) hsrc0.one
                        have hrun := run_append_in (P := P) (w := w) (ty := ty) ht hxt hnot' hi (base := some ⟨L.blk, L.sh + 0, none⟩) (sLen := len) (sCap := c) hlen (by rw [hisz]; exact hsrc0.run) hin
                        simp only [Addr.add_lit, hisz, k1, Result.andThen_ok] at hrun
                        have hnone : β h.next = none := r.fresh _ (Nat.le_refl _)
                        have hB : BlkR E.ρ (upd β h.next ⟨L.blk, L.sh + 0, L.sz⟩) ⟨L.blk, L.sh + 0, L.sz⟩ (.cells eb ((len + m) * sz) fz (fillT new (len * sz) t')) (.cells cur' eb f) := by
                          refine ⟨by simp [h0], rfl, by simp only; omega, ?_, by simpa using hfr⟩
                          have hpart : CellsR E.ρ (upd β h.next ⟨L.blk, L.sh + 0, L.sz⟩) (L.sh + 0) (len * sz) t' ca := by
                            intro i v hi
                            obtain ⟨q1, cv, q2, q3, q4⟩ := hhead _ (Ext.upd hnone) i v hi
                            refine ⟨q1, cv, ?_, q3, q4⟩
                            rw [List.getElem?_take, if_pos q1, List.drop_zero] at q2
                            have e0 : L.sh + 0 + i = i := by omega
                            rw [e0]
                            simpa using q2
                          refine cells_write hpart (hsrc0.rel.mono (Ext.upd hnone)) hsrc0.one (fun k => ?_) (by rw [Nat.add_mul]; omega) (by rw [hnl, Nat.add_mul]; omega)
                          have := k4 k
                          rw [Nat.add_zero (L.sh + 0 + len * sz)] at this
                          exact this
                        exact ⟨_, upd β h.next ⟨L.blk, L.sh + 0, L.sz⟩, w', hrun, .slice (upd_same _ _ _) hs0 (Nat.le_refl _) hin (fun e => by cases e) hz,
                          r.move hb hL k5.other k5.size k2 hB, Frm.move r hb hL k5.other k5.size k5.os k5.tape k5.output⟩
                      · obtain ⟨cv, β', w', q1, q2, q3, q4⟩ := hgrow (h.kill b) (r.kill b) (by omega) rfl fz
                        exact ⟨cv, β', w', q1, q2, q3, (Frm.kill b).trans q4⟩
                · cases ha
          · cases ha
        · cases ha
      · cases ha
    · cases ha
  · cases ha
end
end Go.Ae
