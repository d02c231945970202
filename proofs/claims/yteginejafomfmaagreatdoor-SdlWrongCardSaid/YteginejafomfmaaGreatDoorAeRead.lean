/- Operations that only read memory. -/
import Derived.Test.YteginejafomfmaaGreatDoorAePure4
import Derived.Laws.Cells
set_option linter.unusedSimpArgs false
set_option linter.unusedVariables false
set_option maxHeartbeats 1000000
namespace Go.Ae
open Go

section
variable {P : Program} {E : Env} {β : Beta} {h : Hp} {w : World}

/-- A row of the model's, behind an abstract block of cells. -/
theorem Rel.row (r : Rel E β h w) {b : Nat} {L : Loc} {e : TypeId} {ext fz : Nat} {t : T AVal} (hb : h.get b = some (.cells e ext fz t)) (hL : β b = some L) :
    L.sh = 0 ∧ ∃ c fr, w.heap[L.blk]? = some (.cells c e fr) ∧ c.size = L.sz ∧ CellsR E.ρ β L.sh ext t c ∧ (fr.1 = fr.2 ∨ fr.2 ≤ L.sh + fz) := by
  obtain ⟨_, L', o, h1, h2, h3, h4⟩ := r.blk b _ hb
  rw [hL] at h1; cases h1
  cases o <;> first | exact h4.elim | skip
  rename_i c e' fr
  obtain ⟨h0, rfl, h5, h6, h7⟩ := h4
  exact ⟨h0, c, fr, h3, h5, h6, h7⟩

theorem cell_at {L : Nat} {off : Nat} {c : Array Value} {e : TypeId} {fr : Nat × Nat} (hw : w.heap[L]? = some (.cells c e fr)) : w.cell? ⟨L, off, none⟩ = c[off]? := by
  simp [World.cell?, hw]

theorem CellsR.at {ρ : Nat → Value} {sh ext : Nat} {t : T AVal} {c : Array Value} (hc : CellsR ρ β sh ext t c) {i : Nat} {v : AVal} (hi : t.get i = some v) : ∃ cv, c[sh + i]? = some cv ∧ VR ρ β v cv ∧ cv.oneCell' = true :=
  (hc i v hi).2

/-- Some cells in a row, read. -/
theorem read_cells {ρ : Nat → Value} {sh ext : Nat} {t : T AVal} {c : Array Value} (hc : CellsR ρ β sh ext t c) {n off : Nat} {l : List AVal} (hl : readT t n off = some l) :
    ∃ vs : List Value, vs.length = n ∧ VRs ρ β l vs ∧ (∀ u ∈ vs, u.oneCell' = true) ∧ ∀ (j : Nat) (v : Value), vs[j]? = some v → c[sh + off + j]? = some v := by
  obtain ⟨h1, h2⟩ := readT_some n off t l hl
  have hex : ∀ j, j < n → ∃ v x, l[j]? = some x ∧ c[sh + off + j]? = some v ∧ VR ρ β x v ∧ v.oneCell' = true := by
    intro j hj
    have hx : l[j]? = some l[j] := by rw [List.getElem?_eq_getElem (by omega)]
    have hg := h2 j hj
    rw [hx] at hg
    obtain ⟨cv, e1, e2, e3⟩ := hc.at hg
    exact ⟨cv, _, hx, by rw [Nat.add_assoc]; exact e1, e2, e3⟩
  refine ⟨(List.range n).map fun j => (c[sh + off + j]?).getD undef, by simp, VRs.of_get (by simp [h1]) fun j x hx => ?_, fun u hu => ?_, fun j v hv => ?_⟩
  · have hj : j < n := by rw [← h1]; exact (List.getElem?_eq_some_iff.1 hx).1
    obtain ⟨v, y, e1, e2, e3, e4⟩ := hex j hj
    rw [hx] at e1; cases e1
    exact ⟨v, by simp [hj, e2], e3⟩
  · simp only [List.mem_map, List.mem_range] at hu
    obtain ⟨j, hj, rfl⟩ := hu
    obtain ⟨v, y, e1, e2, e3, e4⟩ := hex j hj
    rw [e2]; exact e4
  · have hj : j < n := by have := (List.getElem?_eq_some_iff.1 hv).1; simpa using this
    obtain ⟨v', y, e1, e2, e3, e4⟩ := hex j hj
    simp only [List.getElem?_map, List.getElem?_range hj, Option.map_some, Option.some.injEq, e2, Option.getD_some] at hv
    subst hv; exact e2

/-- What a reading piece answers, in a world that the memory stands for. -/
def SaysAt (P : Program) (E : Env) (β : Beta) (w : World) (s : Sem Value) (v : AVal) : Prop := ∃ cv, s.run P w = .ok cv w ∧ VR E.ρ β v cv

theorem load_sound (r : Rel E β h w) {t : TypeId} {p v : AVal} {cp : Value} (hl : loadA P h t p = some v) (hp : VR E.ρ β p cp) : SaysAt P E β w (Instr.loadAt t cp) v := by
  unfold loadA at hl
  split at hl
  · rename_i b off
    cases hp with | @ptr _ _ L hL =>
    split at hl
    · rename_i e ext fz c hb
      obtain ⟨h0, ca, fr, hw, hsz, hc, hfr⟩ := r.row hb hL
      split at hl
      · rename_i k ha hs
        cases hr : readT c k off with
        | none => rw [hr] at hl; cases hl
        | some l =>
          rw [hr] at hl; simp only [Option.map_some, Option.some.injEq] at hl; subst hl
          obtain ⟨vs, e1, e2, e3, e4⟩ := read_cells hc hr
          have hcells : (loadCells ⟨L.blk, L.sh + off, none⟩ k).run P w = .ok vs.toArray w := by
            rw [← e1]
            exact run_loadCells_list _ _ _ fun j v hv => by rw [Addr.add_lit, cell_at hw]; exact e4 j v hv
          exact ⟨.agg vs.toArray, by simp [Instr.loadAt, Instr.sureAddr, loadVar, aggT_sound ha, sizeT_sound hs, hcells], .agg (by simpa using e2) (by simpa using e3)⟩
      · rename_i k ha
        obtain ⟨cv, e1, e2, e3⟩ := hc.at hl
        have hcell : w.cell? ⟨L.blk, L.sh + off, none⟩ = some cv := by rw [cell_at hw]; exact e1
        exact ⟨cv, by simp [Instr.loadAt, Instr.sureAddr, loadVar, aggT_sound ha, hcell], e2⟩
      · cases hl
    · cases hl
  · cases hl

theorem loadGlob_sound (r : Rel E β h w) {t : TypeId} {g : Nat} {v : AVal} (ha : aggT P t = some false) (hg : E.G g = some v) : SaysAt P E β w (Instr.loadAt t (.pointer (some ⟨g, 0, none⟩))) v := by
  obtain ⟨_, cv, h1, h2⟩ := r.glob g v hg
  exact ⟨cv, by simp [Instr.loadAt, Instr.sureAddr, loadVar, aggT_sound ha, h1], h2 β⟩

/-! Maps. -/
theorem EntsR.length : ∀ {es : List Ent} {ms : List MapEntry}, EntsR E.ρ β es ms → es.length = ms.length
  | [], [], _ => rfl
  | _ :: _, _ :: _, ⟨_, _, _, h⟩ => by simp [EntsR.length h]
  | [], _ :: _, h => h.elim
  | _ :: _, [], h => h.elim

theorem Rel.mapObj (r : Rel E β h w) {b : Nat} {L : Loc} {es : List Ent} {clock : Nat} (hb : h.get b = some (.map es clock)) (hL : β b = some L) :
    ∃ ms, w.heap[L.blk]? = some (.map ms clock) ∧ EntsR E.ρ β es ms.toList ∧ L.sh = 0 := by
  obtain ⟨_, L', o, h1, h2, h3, h4⟩ := r.blk b _ hb
  rw [hL] at h1; cases h1
  cases o <;> first | exact h4.elim | skip
  obtain ⟨rfl, h5, h6⟩ := h4
  exact ⟨_, h3, h6, h5⟩

theorem run_getMap {r : Nat} {ms : Array MapEntry} {clock : Nat} (hw : w.heap[r]? = some (.map ms clock)) : (getObj r).run P w = .ok (.map ms clock) w := by
  simp [getObj, Sem.run, hw]

theorem keyFits_cases {t : TypeId} {k : AVal} (hk : keyFits P t k = true) : ∃ td, P.underlying t = some td ∧
    ((∃ i j n, td = .int i ∧ k = .int j n) ∨ (∃ n a, td = .string ∧ k = .str n a) ∨ ∃ b, td = .bool ∧ k = .bool b) := by
  unfold keyFits und at hk
  split at hk
  · rename_i i j n hu; exact ⟨_, hu, .inl ⟨i, j, n, rfl, rfl⟩⟩
  · rename_i n a hu; exact ⟨_, hu, .inr (.inl ⟨n, a, rfl, rfl⟩)⟩
  · rename_i b hu; exact ⟨_, hu, .inr (.inr ⟨b, rfl, rfl⟩)⟩
  · cases hk

theorem run_checkKey {t : TypeId} {k : AVal} (hk : keyFits P t k = true) (em : Bool) (n : Nat) (v : Value) : (Instr.checkKey em (n + 1) t v).run P w = .ok () w := by
  obtain ⟨td, hu, ⟨i, j, n, rfl, _⟩ | ⟨n, a, rfl, _⟩ | ⟨b, rfl, _⟩⟩ := keyFits_cases hk <;> simp [Instr.checkKey, run_underlying hu]

/-- What looking for a key comes to. -/
def FoundR (E : Env) (β : Beta) : Option (Nat × AVal) → Option (Nat × Value) → Prop
  | none, none => True
  | some (i, v), some (j, cv) => i = j ∧ VR E.ρ β v cv
  | _, _ => False

theorem find_sound {td : TypeDesc} {k : AVal} {ck : Value} (hk : VR E.ρ β k ck) (htd : (∃ i j n, td = .int i ∧ k = .int j n) ∨ (∃ n a, td = .string ∧ k = .str n a) ∨ ∃ b, td = .bool ∧ k = .bool b) :
    ∀ (es : List Ent) (ms : List MapEntry) (i : Nat) (res : Option (Nat × AVal)), EntsR E.ρ β es ms → findE k es i = some res →
      ∃ cres, Instr.findNow td ck ms i = some cres ∧ FoundR E β res cres
  | [], [], i, res, _, hf => by
    simp only [findE, Option.some.injEq] at hf; subst hf
    exact ⟨none, rfl, trivial⟩
  | e :: es, m :: ms, i, res, ⟨h1, h2, h3, h4⟩, hf => by
    have ih := fun hf => find_sound hk htd es ms (i + 1) res h4 hf
    generalize hmk : m.key = mk at h1
    generalize hke : e.key = ke at h1
    simp only [findE, hke] at hf
    split at hf
    · rename_i j a j' b
      cases hk; cases h1
      obtain ⟨i0, _, _, rfl, _⟩ | ⟨_, _, _, hc⟩ | ⟨_, _, hc⟩ := htd
      case inr.inl => cases hc
      case inr.inr => cases hc
      cases hj : (j == j') with
      | false => rw [hj] at hf; cases hf
      | true =>
        rw [hj, cond_true] at hf
        have := eq_of_beq hj; subst this
        cases hab : (a == b) with
        | true =>
          rw [hab, cond_true] at hf; simp only [Option.some.injEq] at hf; subst hf
          exact ⟨some (i, m.val), by simp [Instr.findNow, Instr.sameNow, hmk, hab], rfl, h2⟩
        | false =>
          rw [hab, cond_false] at hf
          obtain ⟨cres, g1, g2⟩ := ih hf
          exact ⟨cres, by simp [Instr.findNow, Instr.sameNow, hmk, hab]; exact g1, g2⟩
    · rename_i n a m' b
      cases hk with | @str _ _ s s1 s2 =>
      cases h1 with | @str _ _ s' s3 s4 =>
      obtain ⟨_, _, _, _, hc⟩ | ⟨_, _, rfl, _⟩ | ⟨_, _, hc⟩ := htd
      case inl => cases hc
      case inr.inr => cases hc
      have hab : (s == s') = (Nat.beq n m' && Nat.beq a b) := by rw [beq_toListBytes]; exact str_beq s1 s2 s3 s4
      cases hb : (Nat.beq n m' && Nat.beq a b) with
      | true =>
        rw [hb, cond_true] at hf; simp only [Option.some.injEq] at hf; subst hf
        exact ⟨some (i, m.val), by simp only [Instr.findNow, Instr.sameNow, hmk, hab, hb], rfl, h2⟩
      | false =>
        rw [hb, cond_false] at hf
        obtain ⟨cres, g1, g2⟩ := ih hf
        exact ⟨cres, by simp only [Instr.findNow, Instr.sameNow, hmk, hab, hb]; exact g1, g2⟩
    · rename_i a b
      cases hk; cases h1
      obtain ⟨_, _, _, _, hc⟩ | ⟨_, _, _, hc⟩ | ⟨_, rfl, _⟩ := htd
      case inl => cases hc
      case inr.inl => cases hc
      cases hb : (a == b) with
      | true =>
        rw [hb, cond_true] at hf; simp only [Option.some.injEq] at hf; subst hf
        exact ⟨some (i, m.val), by simp [Instr.findNow, Instr.sameNow, hmk, hb], rfl, h2⟩
      | false =>
        rw [hb, cond_false] at hf
        obtain ⟨cres, g1, g2⟩ := ih hf
        exact ⟨cres, by simp [Instr.findNow, Instr.sameNow, hmk, hb]; exact g1, g2⟩
    · cases hf
  | [], _ :: _, i, res, hr, _ => hr.elim
  | _ :: _, [], i, res, hr, _ => hr.elim

theorem findKey_sound {t : TypeId} {k : AVal} {ck : Value} {es : List Ent} {ms : List MapEntry} {res : Option (Nat × AVal)} (hk : VR E.ρ β k ck) (hf : keyFits P t k = true) (he : EntsR E.ρ β es ms)
    (hr : findE k es 0 = some res) : ∃ cres, (∀ w, (Instr.findKey t ck ms).run P w = .ok cres w) ∧ FoundR E β res cres := by
  obtain ⟨td, hu, htd⟩ := keyFits_cases hf
  obtain ⟨cres, g1, g2⟩ := find_sound hk htd es ms 0 res he hr
  exact ⟨cres, fun w => by simp [Instr.findKey, run_underlying hu, g1], g2⟩

theorem lookup_sound (r : Rel E β h w) {t : TypeId} {m k v : AVal} {cm ck : Value} {ok : Bool} (hl : lookupA P h t m k ok = some v) (hm : VR E.ρ β m cm) (hk : VR E.ρ β k ck) :
    SaysAt P E β w (Instr.lookup t cm ck ok) v := by
  unfold lookupA und at hl
  split at hl
  · rename_i kt et es hu hes
    cases hf : keyFits P kt k with
    | false => rw [hf] at hl; cases hl
    | true =>
      rw [hf] at hl; simp only [Bool.not_true, cond_false] at hl
      -- the entries
      have hents : ∃ ms : Array MapEntry, EntsR E.ρ β es ms.toList ∧ ((cm = .map none ∧ ms = #[]) ∨ ∃ B clock, cm = .map (some B) ∧ w.heap[B]? = some (.map ms clock)) := by
        unfold entsA at hes
        split at hes
        · cases hm; simp only [Option.some.injEq] at hes; subst hes
          exact ⟨#[], trivial, .inl ⟨rfl, rfl⟩⟩
        · cases hm with | @map b L hL =>
          split at hes
          · rename_i clock hb
            simp only [Option.some.injEq] at hes; subst hes
            obtain ⟨ms, h1, h2, _⟩ := r.mapObj hb hL
            exact ⟨ms, h2, .inr ⟨_, _, rfl, h1⟩⟩
          · cases hes
        · cases hes
      obtain ⟨ms, hms, hcm⟩ := hents
      have hck := fun w => run_checkKey (P := P) (w := w) hf ms.isEmpty 9999 ck
      split at hl
      · rename_i i x hfd
        obtain ⟨cres, g1, g2⟩ := findKey_sound hk hf hms hfd
        cases cres with
        | none => exact g2.elim
        | some q =>
          obtain ⟨j, cv⟩ := q
          obtain ⟨rfl, hv⟩ := g2
          simp only [Option.some.injEq] at hl; subst hl
          refine ⟨if ok then .tuple #[cv, .bool true] else cv, ?_, ?_⟩
          · rcases hcm with ⟨rfl, rfl⟩ | ⟨B, clock, rfl, hB⟩
            · simp only [Instr.lookup, run_underlying hu, Sem.run_bind, Result.andThen_ok, hck, g1, Sem.run_pure]
            · simp only [Instr.lookup, run_underlying hu, Sem.run_bind, Result.andThen_ok, run_getMap hB, hck, g1, Sem.run_pure]
          · cases ok
            · exact hv
            · exact .tuple (.cons hv (.cons (.bool _) .nil))
      · rename_i hfd
        obtain ⟨cres, g1, g2⟩ := findKey_sound hk hf hms hfd
        cases cres with
        | some q => exact g2.elim
        | none =>
          split at hl
          · rename_i z hz
            obtain ⟨cz, _, hzr, hzv⟩ := zeroT_sound (E := E) (β := β) hz
            simp only [Option.some.injEq] at hl; subst hl
            refine ⟨if ok then .tuple #[cz, .bool false] else cz, ?_, ?_⟩
            · rcases hcm with ⟨rfl, rfl⟩ | ⟨B, clock, rfl, hB⟩
              · simp only [Instr.lookup, run_underlying hu, Sem.run_bind, Result.andThen_ok, hck, g1, Sem.run_pure, hzr]
              · simp only [Instr.lookup, run_underlying hu, Sem.run_bind, Result.andThen_ok, run_getMap hB, hck, g1, Sem.run_pure, hzr]
            · cases ok
              · exact hzv
              · exact .tuple (.cons hzv (.cons (.bool _) .nil))
          · cases hl
      · cases hl
  · cases hl
end
end Go.Ae
