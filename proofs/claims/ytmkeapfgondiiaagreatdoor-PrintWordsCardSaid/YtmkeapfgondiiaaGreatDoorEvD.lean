/- Operations that write: the rest. -/
import Derived.Test.YtmkeapfgondiiaaGreatDoorEvC
import Derived.Lib.ConvBytes
import Derived.Laws.Externs
import Derived.Lib.Bytealg
import Derived.Lib.MakeNoZero
import Derived.KernelRfl
set_option linter.unusedSimpArgs false
set_option linter.unusedVariables false
set_option maxHeartbeats 1000000
namespace Go.Ae
open Go

section
variable {P : Program} {E : Env} {β : Beta} {h : Hp} {w : World}

/-- What an effect comes to, where the model answers a value. -/
def DoesV (P : Program) (E : Env) (β : Beta) (h : Hp) (w : World) (s : Sem Value) (v : AVal) (h' : Hp) : Prop :=
  ∃ cv β' w', s.run P w = .ok cv w' ∧ VR E.ρ β' v cv ∧ Rel E β' h' w' ∧ Frm β h w β' h' w'
def DoesU (P : Program) (E : Env) (β : Beta) (h : Hp) (w : World) (s : Sem Unit) (h' : Hp) : Prop :=
  ∃ β' w', s.run P w = .ok () w' ∧ Rel E β' h' w' ∧ Frm β h w β' h' w'
theorem DoesV.op {s : Sem Value} {v : AVal} {h' : Hp} (d : DoesV P E β h w s v h') : Does P E β h w (do Pure.pure (Next.value (← s))) v h' :=
  let ⟨cv, β', w', h1, h2, h3, h4⟩ := d
  ⟨_, cv, β', w', by simp [h1], .inl rfl, h2, h3, h4⟩
theorem DoesU.op {s : Sem Unit} {h' : Hp} (d : DoesU P E β h w s h') : Does P E β h w (do s; Pure.pure .skip) .undef h' :=
  let ⟨β', w', h1, h3, h4⟩ := d
  ⟨_, undef, β', w', by simp [h1], .inr ⟨rfl, rfl⟩, .tuple .nil, h3, h4⟩

theorem copy_sound (r : Rel E β h w) {ts : List TypeId} {t ty : TypeId} {dst src v : AVal} {cd cs : Value} {rest : List Value} {h' : Hp} (ha : copyOp P t dst src h = some (v, h')) (hd : VR E.ρ β dst cd) (hs : VR E.ρ β src cs) :
    DoesV P E β h w (Builtin.copy_ (t :: ts).toArray ty #[cd, cs]) v h' := by
  unfold copyOp und at ha
  split at ha
  · rename_i e n b off len cap ex sz hu hl
    cases hd with | @slice _ _ _ _ _ c _ L hL hsz0 hlc hcap hex hz =>
    split at ha
    · rename_i size hsz
      split at ha
      · rename_i new eb ext fz tr hcs hb
        cases hc : (Nat.beq sz size && (Nat.beq (Nat.min n len) 0 || Nat.ble fz off)) with
        | false => rw [hc] at ha; cases ha
        | true =>
          rw [hc, cond_true] at ha; simp only [Option.some.injEq, Prod.mk.injEq] at ha
          obtain ⟨rfl, rfl⟩ := ha
          simp only [Bool.and_eq_true, Bool.or_eq_true] at hc
          have := Nat.eq_of_beq_eq_true hc.1; subst this
          obtain ⟨vs, hsrc⟩ := src_sound (P := P) r hcs hs (by rw [hl]; exact Nat.min_le_left _ _)
          have hlen := lenA_sound (P := P) hl hs w
          obtain ⟨h0, ca, f, hw, hsize, hcr, hfr⟩ := r.row hb hL
          have hk : Nat.min n len * sz ≤ c * sz := Nat.mul_le_mul_right _ (Nat.le_trans (Nat.min_le_right _ _) (by omega))
          have hnl : new.length = Nat.min n len * sz := by rw [hsrc.rel.length]; exact hsrc.len
          have hst : ∃ w' cur', (storeCells ⟨L.blk, L.sh + off, none⟩ vs).run P w = .ok () w' ∧ w'.heap[L.blk]? = some (.cells cur' eb f) ∧ cur'.size = ca.size ∧
              (∀ k, cur'[k]? = if L.sh + off ≤ k ∧ k < L.sh + off + vs.length then vs[k - (L.sh + off)]? else ca[k]?) ∧ OneBlk L.blk w w' := by
            rcases hc.2 with e | e
            · have e0 : Nat.min n len = 0 := Nat.eq_of_beq_eq_true e
              have : vs = [] := List.eq_nil_of_length_eq_zero (by rw [hsrc.len, e0]; simp)
              subst this
              exact ⟨w, ca, rfl, hw, rfl, fun k => by rw [if_neg (by simp)], .refl _ _⟩
            · have e' := Nat.le_of_ble_eq_true e
              obtain ⟨w', cur', k1, k2, k3, k4, k5⟩ := run_storeRow (P := P) L.blk (L.sh + off) eb f vs 0 ca w hw (by rcases hfr with q | q; exact .inl q; exact .inr (by omega)) (by rw [hsrc.len]; omega) hsrc.one
              exact ⟨w', cur', k1, k2, k3, k4, k5⟩
          obtain ⟨w', cur', k1, k2, k3, k4, k5⟩ := hst
          obtain ⟨q1, q2⟩ := r.writeRow hb hL k5 k2 (x' := .cells eb (Nat.max ext (off + Nat.min n len * sz)) fz (fillT new off tr)) ⟨h0, rfl, by omega, by
            refine cells_write hcr hsrc.rel hsrc.one k4 (Nat.le_max_left _ _) (by rw [hnl]; exact Nat.le_max_right _ _), hfr⟩
          refine ⟨.int .i64 (Nat.min n len : Nat), β, w', ?_, .int _ _, q1, q2⟩
          simp [Builtin.copy_, run_underlying hu, hlen, sizeT_sound hsz, hsrc.run, k1, goInt]
      · cases ha
    · cases ha
  · rename_i e n hu hl
    cases hd
    split at ha
    · rename_i size hsz
      split at ha
      · rename_i l hcs
        simp only [Option.some.injEq, Prod.mk.injEq] at ha
        obtain ⟨rfl, rfl⟩ := ha
        obtain ⟨vs, hsrc⟩ := src_sound (P := P) r hcs hs (Nat.zero_le _)
        have hlen := lenA_sound (P := P) hl hs w
        have hm : Nat.min n 0 = 0 := Nat.min_zero n
        exact ⟨.int .i64 0, β, w, by simp [Builtin.copy_, run_underlying hu, hlen, sizeT_sound hsz, hm, hsrc.run, goInt], .int _ _, r, .refl _ _ _⟩
      · cases ha
    · cases ha
  · cases ha

/-! Maps. -/
theorem run_setMap {r : Nat} {ms : Array MapEntry} {clock : Nat} {o : Obj} (hw : w.heap[r]? = some (.map ms clock)) :
    (setObj r o).run P w = .ok () { w with heap := w.heap.setIfInBounds r o } := by
  simp [setObj, Sem.run, hw]
theorem set_one (w : World) (r : Nat) (o : Obj) : OneBlk r w { w with heap := w.heap.setIfInBounds r o } :=
  ⟨fun k hk => by simp [Array.getElem?_setIfInBounds_ne (Ne.symm hk)], by simp, rfl, rfl, rfl⟩
theorem set_at {w : World} {r : Nat} {o o' : Obj} (hw : w.heap[r]? = some o) : ({ w with heap := w.heap.setIfInBounds r o' } : World).heap[r]? = some o' := by
  have hlt : r < w.heap.size := (Array.getElem?_eq_some_iff.1 hw).1
  simp [hlt]

theorem EntsR.get : ∀ {es : List Ent} {ms : List MapEntry} {i : Nat} {e : Ent}, EntsR E.ρ β es ms → es[i]? = some e → ∃ m, ms[i]? = some m ∧ VR E.ρ β e.key m.key ∧ VR E.ρ β e.val m.val ∧ e.born = m.born
  | e :: es, m :: ms, 0, e', ⟨h1, h2, h3, h4⟩, he => by simp at he; subst he; exact ⟨m, rfl, h1, h2, h3⟩
  | e :: es, m :: ms, i + 1, e', ⟨h1, h2, h3, h4⟩, he => by simpa using EntsR.get h4 (by simpa using he)
  | [], [], i, e', _, he => by simp at he
  | [], _ :: _, _, _, h, _ => h.elim
  | _ :: _, [], _, _, h, _ => h.elim
theorem EntsR.erase : ∀ {es : List Ent} {ms : List MapEntry} (i : Nat), EntsR E.ρ β es ms → EntsR E.ρ β (es.eraseIdx i) (ms.eraseIdx i)
  | [], [], i, _ => by simp [EntsR]
  | e :: es, m :: ms, 0, ⟨_, _, _, h4⟩ => by simpa using h4
  | e :: es, m :: ms, i + 1, ⟨h1, h2, h3, h4⟩ => by simpa using ⟨h1, h2, h3, EntsR.erase i h4⟩
  | [], _ :: _, _, h => h.elim
  | _ :: _, [], _, h => h.elim
theorem EntsR.modify {k v : AVal} {ck cv : Value} (hk : VR E.ρ β k ck) (hv : VR E.ρ β v cv) : ∀ {es : List Ent} {ms : List MapEntry} (i : Nat), EntsR E.ρ β es ms →
    EntsR E.ρ β (es.modify i fun e => { e with key := k, val := v }) (ms.modify i fun e => { e with key := ck, val := cv })
  | [], [], i, _ => by simp [EntsR]
  | e :: es, m :: ms, 0, ⟨_, _, h3, h4⟩ => by simpa [List.modify_cons] using ⟨hk, hv, h3, h4⟩
  | e :: es, m :: ms, i + 1, ⟨h1, h2, h3, h4⟩ => by simpa [List.modify_cons] using ⟨h1, h2, h3, EntsR.modify hk hv i h4⟩
  | [], _ :: _, _, h => h.elim
  | _ :: _, [], _, h => h.elim
theorem EntsR.push : ∀ {es : List Ent} {ms : List MapEntry} {e : Ent} {m : MapEntry}, EntsR E.ρ β es ms → VR E.ρ β e.key m.key → VR E.ρ β e.val m.val → e.born = m.born → EntsR E.ρ β (es ++ [e]) (ms ++ [m])
  | [], [], e, m, _, h1, h2, h3 => ⟨h1, h2, h3, trivial⟩
  | _ :: es, _ :: ms, e, m, ⟨g1, g2, g3, g4⟩, h1, h2, h3 => ⟨g1, g2, g3, EntsR.push g4 h1 h2 h3⟩
  | [], _ :: _, _, _, h, _, _, _ => h.elim
  | _ :: _, [], _, _, h, _, _, _ => h.elim

theorem delete_sound (r : Rel E β h w) {ts : List TypeId} {t ty : TypeId} {m k v : AVal} {cm ck : Value} {h' : Hp} (ha : deleteOp P t m k h = some (v, h')) (hm : VR E.ρ β m cm) (hk : VR E.ρ β k ck) :
    DoesV P E β h w (Builtin.delete_ (t :: ts).toArray ty #[cm, ck]) v h' := by
  unfold deleteOp und at ha
  split at ha
  · rename_i kt et b hu
    cases hm with | @map _ L hL =>
    split at ha
    · rename_i es clock hb
      cases hf : keyFits P kt k with
      | false => rw [hf] at ha; cases ha
      | true =>
        rw [hf, cond_true] at ha
        obtain ⟨ms, hw, he, h0⟩ := r.mapObj hb hL
        have hck := fun w => run_checkKey (P := P) (w := w) hf ms.isEmpty 9999 ck
        split at ha
        · rename_i i x hfd
          simp only [Option.some.injEq, Prod.mk.injEq] at ha
          obtain ⟨rfl, rfl⟩ := ha
          obtain ⟨cres, g1, g2⟩ := findKey_sound hk hf he hfd
          cases cres with
          | none => exact g2.elim
          | some q =>
            obtain ⟨j, cv⟩ := q
            obtain ⟨rfl, hv⟩ := g2
            obtain ⟨q1, q2⟩ := r.writeRow hb hL (set_one w L.blk (.map (ms.eraseIdxIfInBounds i) clock)) (set_at hw) (x' := .map (es.eraseIdx i) clock) ⟨rfl, h0, by
              have : (ms.eraseIdxIfInBounds i).toList = ms.toList.eraseIdx i := by
                unfold Array.eraseIdxIfInBounds
                split
                · simp
                · rename_i hn; rw [List.eraseIdx_of_length_le (by simpa using hn)]
              rw [this]; exact he.erase i⟩
            refine ⟨.tuple #[], β, _, ?_, .tuple .nil, q1, q2⟩
            simp [Builtin.delete_, run_underlying hu, run_getMap hw, hck, g1, run_setMap hw]
        · rename_i hfd
          simp only [Option.some.injEq, Prod.mk.injEq] at ha
          obtain ⟨rfl, rfl⟩ := ha
          obtain ⟨cres, g1, g2⟩ := findKey_sound hk hf he hfd
          cases cres with
          | some q => exact g2.elim
          | none =>
            obtain ⟨q1, q2⟩ := r.writeRow hb hL (set_one w L.blk (.map ms clock)) (set_at hw) (x' := .map es clock) ⟨rfl, h0, he⟩
            refine ⟨.tuple #[], β, _, ?_, .tuple .nil, q1, q2⟩
            simp [Builtin.delete_, run_underlying hu, run_getMap hw, hck, g1, run_setMap hw]
        · cases ha
    · cases ha
  · cases ha

theorem find_same {k : AVal} {ck : Value} (hk : VR E.ρ β k ck) : ∀ {es : List Ent} {ms : List MapEntry} {j i : Nat} {x : AVal}, findE k es j = some (some (i, x)) → EntsR E.ρ β es ms →
    ∃ d m, i = j + d ∧ ms[d]? = some m ∧ ∀ n, Instr.sameBits n m.key ck = true
  | [], ms, j, i, x, hf, _ => by simp [findE] at hf
  | e :: es, [], j, i, x, hf, h => h.elim
  | e :: es, m :: ms, j, i, x, hf, ⟨h1, h2, h3, h4⟩ => by
    have ih : findE k es (j + 1) = some (some (i, x)) → ∃ d m', i = j + d ∧ (m :: ms)[d]? = some m' ∧ ∀ n, Instr.sameBits n m'.key ck = true := fun hf => by
      obtain ⟨d, m', e1, e2, e3⟩ := find_same hk hf h4
      exact ⟨d + 1, m', by omega, by simpa using e2, e3⟩
    generalize hmk : m.key = mk at h1
    generalize hke : e.key = ke at h1
    simp only [findE, hke] at hf
    split at hf
    · rename_i j1 a j2 b
      cases hk; cases h1
      cases hj : (j1 == j2) with
      | false => rw [hj] at hf; cases hf
      | true =>
        rw [hj, cond_true] at hf
        have := eq_of_beq hj; subst this
        cases hab : (a == b) with
        | true =>
          rw [hab, cond_true] at hf; simp only [Option.some.injEq, Prod.mk.injEq] at hf
          have := eq_of_beq hab; subst this
          exact ⟨0, m, by omega, rfl, fun n => by rw [hmk]; cases n <;> simp [Instr.sameBits]⟩
        | false => rw [hab, cond_false] at hf; exact ih hf
    · rename_i n1 a n2 b
      cases hk with | @str _ _ s s1 s2 =>
      cases h1 with | @str _ _ s' s3 s4 =>
      cases hb : (Nat.beq n1 n2 && Nat.beq a b) with
      | true =>
        rw [hb, cond_true] at hf; simp only [Option.some.injEq, Prod.mk.injEq] at hf
        have hab : (s' == s) = true := by
          rw [beq_toListBytes, str_beq s3 s4 s1 s2]
          simp only [Bool.and_eq_true] at hb ⊢
          rw [Nat.eq_of_beq_eq_true hb.1, Nat.eq_of_beq_eq_true hb.2]
          exact ⟨Nat.beq_refl _, Nat.beq_refl _⟩
        exact ⟨0, m, by omega, rfl, fun n => by rw [hmk]; cases n <;> simp only [Instr.sameBits, hab]⟩
      | false => rw [hb, cond_false] at hf; exact ih hf
    · rename_i a b
      cases hk; cases h1
      cases hb : (a == b) with
      | true =>
        rw [hb, cond_true] at hf; simp only [Option.some.injEq, Prod.mk.injEq] at hf
        have := eq_of_beq hb; subst this
        exact ⟨0, m, by omega, rfl, fun n => by rw [hmk]; cases n <;> simp [Instr.sameBits]⟩
      | false => rw [hb, cond_false] at hf; exact ih hf
    · cases hf

theorem mapPut_sound (r : Rel E β h w) {t : TypeId} {m k v x : AVal} {cm ck cv : Value} {h' : Hp} (ha : mapPut P h t m k v = some (x, h')) (hm : VR E.ρ β m cm) (hk : VR E.ρ β k ck) (hv : VR E.ρ β v cv) :
    x = .undef ∧ DoesU P E β h w (Instr.mapUpdate t cm ck cv) h' := by
  unfold mapPut und at ha
  split at ha
  · rename_i kt et b hu
    cases hm with | @map _ L hL =>
    split at ha
    · rename_i es clock hb
      cases hf : keyFits P kt k with
      | false => rw [hf] at ha; cases ha
      | true =>
        rw [hf] at ha; simp only [Bool.not_true, cond_false] at ha
        obtain ⟨ms, hw, he, h0⟩ := r.mapObj hb hL
        have hck := fun w => run_checkKey (P := P) (w := w) hf false 9999 ck
        split at ha
        · rename_i i x' hfd
          simp only [Option.some.injEq, Prod.mk.injEq] at ha
          obtain ⟨rfl, rfl⟩ := ha
          obtain ⟨cres, g1, g2⟩ := findKey_sound hk hf he hfd
          cases cres with
          | none => exact g2.elim
          | some q =>
            obtain ⟨j, cv'⟩ := q
            obtain ⟨rfl, _⟩ := g2
            obtain ⟨d, m, e1, e2, e3⟩ := find_same hk hfd he
            have e1' : i = d := by omega
            subst e1'
            have hkey : (((ms[i]?).map (·.key)).getD ck) = m.key := by
              have : ms[i]? = some m := by simpa using e2
              simp [this]
            obtain ⟨q1, q2⟩ := r.writeRow hb hL (set_one w L.blk (.map (ms.modify i fun e => { e with key := ck, val := cv }) clock)) (set_at hw) (x' := .map (es.modify i fun e => { e with key := k, val := v }) clock) ⟨rfl, h0, by
              have : (ms.modify i fun e => { e with key := ck, val := cv }).toList = ms.toList.modify i fun e => { e with key := ck, val := cv } := by simp
              rw [this]; exact he.modify hk hv i⟩
            refine ⟨rfl, β, _, ?_, q1, q2⟩
            simp [Instr.mapUpdate, run_underlying hu, run_getMap hw, hck, g1, hkey, Instr.keyThatStays, e3, run_setMap hw]
        · rename_i hfd
          simp only [Option.some.injEq, Prod.mk.injEq] at ha
          obtain ⟨rfl, rfl⟩ := ha
          obtain ⟨cres, g1, g2⟩ := findKey_sound hk hf he hfd
          cases cres with
          | some q => exact g2.elim
          | none =>
            obtain ⟨q1, q2⟩ := r.writeRow hb hL (set_one w L.blk (.map (ms.push { key := ck, val := cv, born := clock }) (clock + 1))) (set_at hw) (x' := .map (es ++ [⟨k, v, clock⟩]) (clock + 1)) ⟨rfl, h0, by
              have : (ms.push { key := ck, val := cv, born := clock }).toList = ms.toList ++ [{ key := ck, val := cv, born := clock }] := by simp
              rw [this]; exact he.push hk hv rfl⟩
            refine ⟨rfl, β, _, ?_, q1, q2⟩
            simp [Instr.mapUpdate, run_underlying hu, run_getMap hw, hck, g1, run_setMap hw]
        · cases ha
    · cases ha
  · cases ha
end
end Go.Ae
/- Operations that write: texts out of rows, steps through a text, make; and the one theorem. -/
set_option linter.unusedSimpArgs false
set_option linter.unusedVariables false
set_option maxHeartbeats 1000000
namespace Go.Ae
open Go

section
variable {P : Program} {E : Env} {β : Beta} {h : Hp} {w : World}

theorem freeze_one (w : World) (g o n : Nat) : OneBlk g w (w.freeze ⟨g, o, none⟩ n) := by
  unfold World.freeze
  split
  · exact .refl g w
  · exact ⟨fun k hk => by simp [Array.getElem?_modify, Ne.symm hk], by simp, rfl, rfl, rfl⟩
theorem freeze_at {g o n : Nat} {c : Array Value} {e : TypeId} {f : Nat × Nat} (hw : w.heap[g]? = some (.cells c e f)) (hn : n ≠ 0) :
    (w.freeze ⟨g, o, none⟩ n).heap[g]? = some (.cells c e (if f.1 == f.2 then (o, o + n) else (min f.1 o, max f.2 (o + n)))) := by
  unfold World.freeze
  rw [if_neg hn]
  simp [Array.getElem?_modify, hw]

theorem unsafeString_sound (r : Rel E β h w) {t it ty : TypeId} {p v : AVal} {cp : Value} {n : Int} {h' : Hp} (ha : unsafeStringOp P t p n h = some (v, h')) (hp : VR E.ρ β p cp) :
    DoesV P E β h w (Builtin.unsafeString_ #[t, it] ty #[cp, .int .i64 n]) v h' := by
  unfold unsafeStringOp at ha
  split at ha
  · cases hp; simp only [Option.some.injEq, Prod.mk.injEq] at ha
    obtain ⟨rfl, rfl⟩ := ha
    exact ⟨.string .empty, β, w, Lib.run_unsafeString_none w t it ty none, .str rfl (by simp), r, .refl _ _ _⟩
  · cases hp; simp only [Option.some.injEq, Prod.mk.injEq] at ha
    obtain ⟨rfl, rfl⟩ := ha
    exact ⟨.string .empty, β, w, Lib.run_unsafeString_none w t it ty (some _), .str rfl (by simp), r, .refl _ _ _⟩
  · rename_i p' k
    unfold und at ha
    split at ha
    · rename_i b off et hu
      cases hp with | @ptr _ _ L hL =>
      split at ha
      · rename_i e ext fz c hb
        cases hc : (Nat.beq e et && Nat.beq (P.cellsOf e) 1 && Nat.ble (k + 1) (2 ^ 62) && Nat.beq off 0) with
        | false => rw [hc] at ha; cases ha
        | true =>
          rw [hc, cond_true] at ha
          simp only [Bool.and_eq_true] at hc
          obtain ⟨⟨⟨c1, c2⟩, c3⟩, c4⟩ := hc
          have := Nat.eq_of_beq_eq_true c1; subst this
          have hc1 := Nat.eq_of_beq_eq_true c2
          have hk := Nat.le_of_ble_eq_true c3
          have := Nat.eq_of_beq_eq_true c4; subst this
          cases hr : readT c (k + 1) 0 with
          | none => rw [hr] at ha; cases ha
          | some l =>
            rw [hr] at ha; simp only [Option.bind_some] at ha
            cases hcode : natOfCells l with
            | none => rw [hcode] at ha; cases ha
            | some code =>
              rw [hcode] at ha; simp only [Option.some.injEq, Prod.mk.injEq] at ha
              obtain ⟨rfl, rfl⟩ := ha
              obtain ⟨h0, ca, f, hw, hsize, hcr, hfr⟩ := r.row hb hL
              obtain ⟨vs, e1, e2, e3, e4⟩ := read_cells hcr hr
              obtain ⟨bs, g1, g2, g3⟩ := natOfCells_sound hcode e2
              have hbl : bs.length = k + 1 := by rw [g3] at e1; simpa using e1
              have hcells : ∀ j x, bs[j]? = some x → w.cell? ((⟨L.blk, 0, none⟩ : Addr).add j) = some (.int .u8 x.toNat) := by
                intro j x hx
                rw [Addr.add_lit, cell_at hw]
                have := e4 j (.int .u8 x.toNat) (by rw [g3]; simp [hx])
                rw [h0] at this; simpa using this
              have hlen : bs.length ≤ ca.size := by
                obtain ⟨y, hy⟩ : ∃ y, bs[k]? = some y := ⟨bs[k]'(by omega), List.getElem?_eq_getElem (by omega)⟩
                have := e4 k (.int .u8 y.toNat) (by rw [g3]; simp [hy])
                have := (Array.getElem?_eq_some_iff.1 this).1
                omega
              have hrun := Lib.run_unsafeString_row (P := P) w t it ty e hu hc1 L.blk ca.size (by simp [World.shape?, hw]) bs (by intro e; rw [e] at hbl; simp at hbl) hlen (by omega) hcells
              rw [hbl] at hrun
              obtain ⟨q1, q2⟩ := r.writeRow hb hL (freeze_one w L.blk 0 (k + 1)) (freeze_at hw (by omega)) (x' := .cells e ext (Nat.max fz (0 + (k + 1))) c) ⟨h0, rfl, hsize, hcr, by
                simp only [h0, Nat.zero_add]
                right
                split
                · exact Nat.le_max_right _ _
                · rename_i hne
                  rcases hfr with q | q
                  · exact absurd q (by simpa using hne)
                  · rw [h0, Nat.zero_add] at q
                    exact Nat.max_le.2 ⟨Nat.le_trans q (Nat.le_max_left _ _), Nat.le_max_right _ _⟩⟩
              have hcp : L.sh + 0 = 0 := by omega
              refine ⟨.string ⟨bs.toArray⟩, β, _, by rw [hcp]; exact_mod_cast hrun, .str ?_ ?_, q1, q2⟩
              · rw [← g2, ← hbl, decode_codeOf]
              · rw [← g2, ← hbl]; exact codeOf_lt bs
      · cases ha
    · cases ha
  · cases ha

/-! A step through a text. -/
theorem byteAt_get {s : ByteArray} {n a : Nat} (hs : s.data.toList = decode n a) (ha : a < 256 ^ n) (j : Nat) : (s.get! j).toNat = byteAt a j := by
  by_cases hj : j < n
  · have h3 := decode_get n a j hj
    rw [← hs, Array.getElem?_toList] at h3
    have : s.get! j = UInt8.ofNat (byteAt a j) := by
      show s.data[j]! = _
      rw [getElem!_def, h3]
    rw [this, UInt8.toNat_ofNat']
    exact Nat.mod_eq_of_lt (Nat.mod_lt _ (by omega))
  · have h1 : s.data[j]? = none := by
      rw [← Array.getElem?_toList, hs]
      exact List.getElem?_eq_none (by simp; omega)
    have : s.get! j = 0 := by
      show s.data[j]! = _
      rw [getElem!_def, h1]; rfl
    rw [this]
    unfold byteAt
    rw [Nat.shiftRight_eq_div_pow, two_pow_8]
    have : a / 256 ^ j = 0 := Nat.div_eq_of_lt (Nat.lt_of_lt_of_le ha (Nat.pow_le_pow_right (by omega) (by omega)))
    rw [this]; rfl

theorem runeAt_eq {s : ByteArray} {n a : Nat} (hs : s.data.toList = decode n a) (ha : a < 256 ^ n) (i : Nat) : Utf8.decode s i = runeAt n a i := by
  have hsz := size_of_data hs
  have hb : ∀ x y : Nat, Nat.beq x y = (x == y) := fun x y => by
    rw [Bool.eq_iff_iff]
    simp only [beq_iff_eq]
    exact ⟨fun e => Nat.eq_of_beq_eq_true e, fun e => by rw [e]; exact Nat.beq_refl _⟩
  have hl : ∀ x y : Nat, Nat.blt x y = decide (x < y) := fun x y => by
    rw [Bool.eq_iff_iff]; simp [Nat.blt_eq]
  unfold Utf8.decode runeAt
  simp only [byteAt_get hs ha, hsz, hb, hl]

theorem run_getIter {r : Nat} {s : ByteArray} {pos : Nat} (hw : w.heap[r]? = some (.stringIter s pos)) : (getObj r).run P w = .ok (.stringIter s pos) w := by
  simp [getObj, Sem.run, hw]
theorem run_setIter {r : Nat} {s : ByteArray} {pos : Nat} {o : Obj} (hw : w.heap[r]? = some (.stringIter s pos)) :
    (setObj r o).run P w = .ok () { w with heap := w.heap.setIfInBounds r o } := by
  simp [setObj, Sem.run, hw]

theorem next_sound (r : Rel E β h w) {ty : TypeId} {it v : AVal} {ci : Value} {h' : Hp} (ha : nextStr h it = some (v, h')) (hi : VR E.ρ β it ci) : DoesV P E β h w (Instr.next ci true ty) v h' := by
  unfold nextStr at ha
  split at ha
  · rename_i b
    cases hi with | @ptr _ _ L hL =>
    split at ha
    · rename_i n a pos hb
      obtain ⟨_, L', o, k1, k2, k3, k4⟩ := r.blk b _ hb
      rw [hL] at k1; cases k1
      cases o <;> first | exact k4.elim | skip
      rename_i s pos'
      obtain ⟨rfl, h0, hs, hcode⟩ := k4
      have hsz := size_of_data hs
      cases hlt : Nat.blt pos' n with
      | true =>
        rw [hlt, cond_true] at ha; simp only [Option.some.injEq, Prod.mk.injEq] at ha
        obtain ⟨rfl, rfl⟩ := ha
        have hlt' : pos' < n := by simpa [Nat.blt_eq] using hlt
        have hdec := runeAt_eq hs hcode pos'
        obtain ⟨q1, q2⟩ := r.writeRow hb hL (set_one w L.blk (.stringIter s (pos' + (runeAt n a pos').2))) (set_at k3) (x' := .siter n a (pos' + (runeAt n a pos').2)) ⟨rfl, h0, hs, hcode⟩
        refine ⟨.tuple #[.bool true, goInt pos', .int .i32 (runeAt n a pos').1], β, _, ?_, .tuple (.cons (.bool _) (.cons (.int _ _) (.cons (.int _ _) .nil))), q1, q2⟩
        simp [Instr.next, h0, run_getIter k3, hsz, hlt', hdec, run_setIter k3]
      | false =>
        rw [hlt, cond_false] at ha; simp only [Option.some.injEq, Prod.mk.injEq] at ha
        obtain ⟨rfl, rfl⟩ := ha
        have hlt' : ¬ pos' < n := by
          intro e
          have : Nat.blt pos' n = true := by simpa [Nat.blt_eq] using e
          rw [this] at hlt; cases hlt
        exact ⟨.tuple #[.bool false], β, w, by simp [Instr.next, h0, run_getIter k3, hsz, hlt'], .tuple (.cons (.bool _) .nil), r, .refl _ _ _⟩
    · cases ha
  · cases ha

/-- Any piece that makes one block under the next number. -/
theorem new_rel (r : Rel E β h w) {w' : World} {x : Blk} {o : Obj} {sz : Nat} (hw : w'.heap = w.heap.push o) (h1 : w'.os = w.os) (h2 : w'.tape = w.tape) (h3 : w'.output = w.output)
    (hb : BlkR E.ρ (upd β h.next ⟨w.heap.size, 0, sz⟩) ⟨w.heap.size, 0, sz⟩ x o) :
    Rel E (upd β h.next ⟨w.heap.size, 0, sz⟩) (h.new x) w' ∧ Frm β h w (upd β h.next ⟨w.heap.size, 0, sz⟩) (h.new x) w' :=
  ⟨r.push (r.fresh _ (Nat.le_refl _)) hw (Nat.le_succ _) (Nat.lt_succ_self _) hb, Frm.push r hw h1 h2 h3⟩

theorem elemSlice_some {t e : TypeId} (he : elemSlice P t = some e) : P.underlying t = some (.slice e) := by
  unfold elemSlice und at he
  split at he
  · rename_i e' hu; simp only [Option.some.injEq] at he; subst he; exact hu
  · cases he

theorem makeSlice_sound (r : Rel E β h w) {t : TypeId} {l c v : AVal} {cl cc : Value} {h' : Hp} (ha : makeSliceA P h t l c = some (v, h')) (hl : VR E.ρ β l cl) (hc : VR E.ρ β c cc) :
    DoesV P E β h w (Instr.makeSlice t cl cc) v h' := by
  unfold makeSliceA at ha
  split at ha
  · rename_i e l c he
    cases hl; cases hc
    have hu := elemSlice_some he
    split at ha
    · rename_i size bytes z hsz hby hz
      cases hcnd : (z.isTuple || Nat.beq size 0 || !Nat.ble (c * bytes) room || !Nat.ble l c || !Nat.ble c (2 ^ 62) || !Nat.beq z.cells.length size) with
      | true => rw [hcnd] at ha; cases ha
      | false =>
        rw [hcnd, cond_false] at ha; simp only [Option.some.injEq, Prod.mk.injEq] at ha
        obtain ⟨rfl, rfl⟩ := ha
        simp only [Bool.or_eq_false_iff, Bool.not_eq_false'] at hcnd
        obtain ⟨⟨⟨⟨⟨c1, c2⟩, c3⟩, c4⟩, c5⟩, c6⟩ := hcnd
        have hs0 : 0 < size := by
          rcases Nat.eq_zero_or_pos size with e0 | e0
          · subst e0; simp at c2
          · exact e0
        have hroom := Nat.le_of_ble_eq_true c3
        have hlc := Nat.le_of_ble_eq_true c4
        have hc62 := Nat.le_of_ble_eq_true c5
        have hzl := Nat.eq_of_beq_eq_true c6
        obtain ⟨cz, ⟨i, hi, hiz⟩, hzr, hzv⟩ := zeroT_all (E := E) hz
        have hiby : i.bytes = bytes := by unfold bytesT at hby; rw [hi] at hby; simpa using hby
        have hx : Ext β (upd β h.next ⟨w.heap.size, 0, c * size⟩) := Ext.upd (r.fresh _ (Nat.le_refl _))
        obtain ⟨hvc, hone⟩ := (hzv (upd β h.next ⟨w.heap.size, 0, c * size⟩)).cells c1
        have hrep := repeat_VRs hvc hone c (by omega)
        rw [hzl] at hrep
        have hwl : IntKind.i64.wrap (Int.ofNat l) = l := wrap_toNat_small .i64 l (by rw [IntKind.max_i64]; omega)
        have hwc : IntKind.i64.wrap (Int.ofNat c) = c := wrap_toNat_small .i64 c (by rw [IntKind.max_i64]; omega)
        have hbig : ¬ ((bytes : Int) * (c : Int) > 2 ^ 48) := by
          have : ((c * bytes : Nat) : Int) ≤ 140737488355328 := by
            have hr : c * bytes ≤ 140737488355328 := hroom
            exact Int.ofNat_le.2 hr
          push_cast at this
          have e : (bytes : Int) * (c : Int) = (c : Int) * bytes := Int.mul_comm _ _
          omega
        have harr : (Array.range (c * size)).map ((if c * size = 0 then #[] else cz.cells)[· % (if c * size = 0 then (#[] : Array Value) else cz.cells).size]!) = (Array.range (c * size)).map (cz.cells[· % cz.cells.size]!) := by
          by_cases e0 : c * size = 0
          · apply Array.ext'; simp [e0]
          · rw [if_neg e0]
        have hblk : BlkR E.ρ (upd β h.next ⟨w.heap.size, 0, c * size⟩) ⟨w.heap.size, 0, c * size⟩ (.cells e (c * size) 0 (fillT (repeatL z.cells c) 0 .e)) (.cells ((Array.range (c * size)).map (cz.cells[· % cz.cells.size]!)) e) := by
          refine ⟨rfl, rfl, by simp, ?_, .inl rfl⟩
          have := cells_fill hrep.1 hrep.2
          rw [repeatL_length, hzl, Array.toArray_toList] at this
          exact this
        obtain ⟨q1, q2⟩ := new_rel r (w' := w.alloc (.cells ((Array.range (c * size)).map (cz.cells[· % cz.cells.size]!)) e)) rfl rfl rfl rfl hblk
        refine ⟨.slice (some ⟨w.heap.size, 0, none⟩) l c, _, _, ?_, .slice (upd_same _ _ _) hs0 hlc (Nat.le_refl _) (fun _ => rfl) (by simp), q1, q2⟩
        have hl0 : ¬ ((l : Int) < 0) := by omega
        have hc0 : ¬ ((c : Int) < 0) := by omega
        have hlc' : ¬ ((l : Int) > (c : Int)) := by omega
        have hisz : i.size = size := by unfold sizeT at hsz; rw [hi] at hsz; simpa using hsz
        have hbig' : ¬ (281474976710656 < (bytes : Int) * (c : Int)) := by omega
        have hlc'' : ¬ ((c : Int) < (l : Int)) := by omega
        by_cases e0 : c * size = 0
        · have e1 : (Array.range (c * size)).map (cz.cells[· % cz.cells.size]!) = #[] := by apply Array.ext'; simp [e0]
          have ec : c = 0 := by
            rcases Nat.eq_zero_or_pos c with e | e
            · exact e
            · have := Nat.mul_pos e hs0; omega
          rw [e1]
          subst ec
          have el : l = 0 := by omega
          subst el
          simp [Instr.makeSlice, run_underlying hu, asInt, asIntOf, sizeOf, typeInfo, hi, newRow, show IntKind.i64.wrap 0 = 0 from by decide, show Array.range 0 = #[] from rfl]
        · simp only [Int.ofNat_eq_natCast] at hwl hwc
          simp [Instr.makeSlice, run_underlying hu, asInt, asIntOf, sizeOf, typeInfo, hi, hwl, hwc, hiby, hisz, hbig', hl0, hc0, hlc'', e0, zeroValue, hiz, newRow]
    · cases ha
  · cases ha

theorem convE_sound (r : Rel E β h w) {src dst : TypeId} {x v : AVal} {cx : Value} {h' : Hp} (ha : convE P src dst h x = some (v, h')) (hx : VR E.ρ β x cx) : DoesV P E β h w (convert src dst cx) v h' := by
  unfold convE und at ha
  split at ha
  · rename_i e n a hs hd
    cases hx with | @str _ _ s h1 h2 =>
    split at ha
    · rename_i he
      cases hn62 : Nat.ble n (2 ^ 62) with
      | false => rw [hn62] at ha; cases ha
      | true =>
      rw [hn62, cond_true] at ha
      have hn62' := Nat.le_of_ble_eq_true hn62
      simp only [Option.some.injEq, Prod.mk.injEq] at ha
      obtain ⟨rfl, rfl⟩ := ha
      have hsz := size_of_data h1
      have hrun := Lib.run_convert_string_bytes (P := P) w src dst e s hs hd he
      have hge := grownCap_ge w s.size 0 e
      have hbc : (Lib.bytesCells w e s).size = grownCap w s.size 0 e := by
        simp only [Lib.bytesCells, Array.size_append, Array.size_map, Array.size_replicate]
        show s.size + _ = _
        omega
      have hnone : β h.next = none := r.fresh _ (Nat.le_refl _)
      -- first as if nothing were frozen
      have hcells : CellsR E.ρ (upd β h.next ⟨w.heap.size, 0, grownCap w s.size 0 e⟩) 0 n (fillT (bytesL n a) 0 .e) (Lib.bytesCells w e s) := by
        have h3 := bytesL_sound (E := E) (β := upd β h.next ⟨w.heap.size, 0, grownCap w s.size 0 e⟩) n a
        intro i v hi
        rw [get_fillT] at hi
        split at hi
        · rename_i hlt
          simp only [Nat.sub_zero] at hi
          obtain ⟨cv, e1, e2⟩ := h3.get hi
          have hin : i < n := by
            have := (List.getElem?_eq_some_iff.1 e1).1
            simpa using this
          refine ⟨hin, cv, ?_, e2, ?_⟩
          · simp only [Lib.bytesCells, Nat.zero_add]
            rw [Array.getElem?_append_left (by rw [Array.size_map]; show i < s.size; omega)]
            rw [← Array.getElem?_toList, Array.toList_map, h1]
            exact e1
          · have := List.mem_of_getElem? e1
            simp only [List.mem_map] at this
            obtain ⟨b, _, rfl⟩ := this
            rfl
        · simp at hi
      have hB : BlkR E.ρ (upd β h.next ⟨w.heap.size, 0, grownCap w s.size 0 e⟩) ⟨w.heap.size, 0, grownCap w s.size 0 e⟩ (.cells e n allFz (fillT (bytesL n a) 0 .e)) (.cells (Lib.bytesCells w e s) e) := ⟨rfl, rfl, hbc, hcells, .inl rfl⟩
      obtain ⟨q1, q2⟩ := new_rel r (w' := w.drew.alloc (.cells (Lib.bytesCells w e s) e)) rfl rfl rfl rfl hB
      have hat : (w.drew.alloc (.cells (Lib.bytesCells w e s) e)).heap[w.heap.size]? = some (.cells (Lib.bytesCells w e s) e (0, 0)) := by
        show (w.heap.push _)[w.heap.size]? = _
        simp
      have hgetn : (h.new (.cells e n allFz (fillT (bytesL n a) 0 .e))).get h.next = some (.cells e n allFz (fillT (bytesL n a) 0 .e)) := by rw [Hp.get_new, if_pos rfl]
      have hcapmax := grownCap_le_maxLen w s.size 0 e (by unfold maxLen; omega)
      obtain ⟨q3, q4⟩ := q1.writeRow hgetn (upd_same _ _ _) (freeze_one _ w.heap.size (Lib.bytesCells w e s).size 1) (freeze_at hat (by omega)) (x' := .cells e n allFz (fillT (bytesL n a) 0 .e)) ⟨rfl, rfl, hbc, hcells, by
        right
        unfold maxLen at hcapmax
        simp only [beq_self_eq_true, if_true, hbc, allFz]
        omega⟩
      have hput : (h.new (.cells e n allFz (fillT (bytesL n a) 0 .e))).put h.next (.cells e n allFz (fillT (bytesL n a) 0 .e)) = h.new (.cells e n allFz (fillT (bytesL n a) 0 .e)) := by
        simp only [Hp.put, Hp.new, T.set_set]
      rw [hput] at q3 q4
      refine ⟨_, _, _, hrun, ?_, q3, q2.trans q4⟩
      rw [hsz]
      exact .slice (upd_same _ _ _) (by omega) (Nat.le_refl _) (by rw [← hsz]; exact hge) (fun e => by cases e) (by simp)
    · cases ha
  · cases ha
end
end Go.Ae
/- Operations that write: the one theorem. -/
set_option linter.unusedSimpArgs false
set_option linter.unusedVariables false
set_option maxHeartbeats 1000000
namespace Go.Ae
open Go

section
variable {P : Program} {E : Env} {β : Beta} {h : Hp} {w : World} {n : Nat} {fr : T AVal} {a : Act}

theorem effBuiltin_sound (r : Rel E β h w) {b : Builtin} {ts : Array TypeId} {ty : TypeId} {consts : Array Bool} {args : List AVal} {cargs : Array Value} {v : AVal} {h' : Hp}
    (ha : effBuiltin P b ts.toList args h = some (v, h')) (hr : VRs E.ρ β args cargs.toList) : Does P E β h w (builtin b ts ty consts cargs) v h' := by
  obtain ⟨tsl⟩ := ts
  obtain ⟨cl⟩ := cargs
  simp only at ha hr
  unfold effBuiltin at ha
  split at ha
  · rename_i t xt s x
    cases hr with | @cons _ _ cs cl hs hr =>
    cases hr with | @cons _ _ cx cl hx hr =>
    cases hr
    obtain ⟨cv, β', w', h1, h2, h3, h4⟩ := append_sound (P := P) (ty := ty) r ha hs hx
    exact DoesV.op ⟨cv, β', w', h1, h2, h3, h4⟩
  · rename_i t ts dst src
    cases hr with | @cons _ _ cs cl hs hr =>
    cases hr with | @cons _ _ cx cl hx hr =>
    cases hr
    exact (copy_sound (P := P) (ts := ts) (ty := ty) (rest := []) r ha hs hx).op
  · rename_i t ts m k
    cases hr with | @cons _ _ cs cl hs hr =>
    cases hr with | @cons _ _ cx cl hx hr =>
    cases hr
    exact (delete_sound (P := P) (ts := ts) (ty := ty) r ha hs hx).op
  · rename_i t it p m
    cases hr with | @cons _ _ cs cl hs hr =>
    cases hr with | @cons _ _ cx cl hx hr =>
    cases hr; cases hx
    exact (unsafeString_sound (P := P) (it := it) (ty := ty) r ha hs).op
  · cases ha

theorem eff_sound (r : Rel E β h w) {o : Oper} {v : AVal} {h' : Hp} (ha : effOp P fr h o = some (v, h')) (hf : FrR E β n fr a) : Does P E β h w (execOp a.eval o) v h' := by
  unfold effOp at ha
  split at ha <;> rename_i ho
  · rename_i t x y
    split at ha
    · rename_i p q hp hq
      split at ha
      · rename_i h2 hs
        simp only [Option.some.injEq, Prod.mk.injEq] at ha
        obtain ⟨rfl, rfl⟩ := ha
        obtain ⟨w', g1, g2, g3⟩ := store_sound (P := P) r hs (opdA_sound hf hp) (opdA_sound hf hq)
        have := (show DoesU P E β h w (Instr.storeAt t (a.eval x) (a.eval y)) h2 from ⟨β, w', g1, g2, g3⟩).op
        simpa only [execOp, ho] using this
      · cases ha
    · cases ha
  · -- makeMap with a hint
    rename_i t x
    unfold und at ha
    split at ha
    · rename_i k e i m hu hx
      simp only [Option.some.injEq, Prod.mk.injEq] at ha
      obtain ⟨rfl, rfl⟩ := ha
      have hv := opdA_sound hf hx
      generalize hcx : a.eval x = cx at hv
      cases hv
      obtain ⟨q1, q2⟩ := new_rel r (w' := w.alloc (.map #[] 0)) (x := .map [] 0) (sz := 0) rfl rfl rfl rfl ⟨rfl, rfl, trivial⟩
      exact ⟨_, .map (some w.heap.size), _, _, by simp [execOp, ho, hcx, Instr.makeMap, run_underlying hu, asInt, asIntOf], .inl rfl, .map (upd_same β h.next ⟨w.heap.size, 0, 0⟩), q1, q2⟩
    · cases ha
  · rename_i t x y
    split at ha
    · rename_i hx hy
      have := (makeSlice_sound (P := P) r ha (opdA_sound hf hx) (opdA_sound hf hy)).op
      simpa only [execOp, ho] using this
    · cases ha
  · rename_i t m k x
    split at ha
    · rename_i hm hk hx
      obtain ⟨rfl, d⟩ := mapPut_sound (P := P) r ha (opdA_sound hf hm) (opdA_sound hf hk) (opdA_sound hf hx)
      have := d.op
      simpa only [execOp, ho] using this
    · cases ha
  · rename_i t m k x
    split at ha
    · rename_i hm hk hx
      obtain ⟨rfl, d⟩ := mapPut_sound (P := P) r ha (opdA_sound hf hm) (opdA_sound hf hk) (opdA_sound hf hx)
      have := d.op
      simpa only [execOp, ho] using this
    · cases ha
  · split at ha
    · rename_i hx
      have := (next_sound (P := P) (ty := o.type) r ha (opdA_sound hf hx)).op
      simpa only [execOp, ho] using this
    · cases ha
  · split at ha
    · rename_i hx
      have := (convE_sound (P := P) r ha (opdA_sound hf hx)).op
      simpa only [execOp, ho] using this
    · cases ha
  · rename_i c
    split at ha
    · rename_i b hcb
      split at ha
      · rename_i args hargs
        have hvs := opdsA_sound hf hargs
        have := effBuiltin_sound (P := P) (ts := c.argTypes) (ty := o.type) (consts := c.args.map fun | .const _ => true | _ => false) (cargs := c.args.map a.eval) r ha (by simpa using hvs)
        obtain ⟨nx, cv, β', w', g1, g2⟩ := this
        exact ⟨nx, cv, β', w', by simp only [execOp, ho, resolve, hcb, Sem.run_bind, Sem.run_pure, Result.andThen_ok, invoke]; exact g1, g2⟩
      · cases ha
    · cases ha
  · cases ha
end
end Go.Ae
/- Functions without a body that the model carries out by itself. -/
set_option linter.unusedSimpArgs false
set_option linter.unusedVariables false
set_option maxHeartbeats 1000000
namespace Go.Ae
open Go

section
variable {P : Program} {E : Env} {β : Beta} {h : Hp} {w : World}

theorem next_empty : Extern.allNextRows.lookup "" = none := by kernel_rfl
theorem next_indexByte : Extern.allNextRows.lookup "internal/bytealg.IndexByteString" = none := by kernel_rfl
theorem next_count : Extern.allNextRows.lookup "internal/bytealg.CountString" = none := by kernel_rfl
theorem next_noEscape : Extern.allNextRows.lookup "internal/abi.NoEscape" = none := by kernel_rfl
theorem next_makeNoZero : Extern.allNextRows.lookup "internal/bytealg.MakeNoZero" = none := by kernel_rfl
theorem gen_indexByte : Extern.allGenericRows.lookup "internal/bytealg.IndexByteString" = none := by kernel_rfl
theorem gen_count : Extern.allGenericRows.lookup "internal/bytealg.CountString" = none := by kernel_rfl
theorem gen_noEscape : Extern.allGenericRows.lookup "internal/abi.NoEscape" = none := by kernel_rfl
theorem gen_makeNoZero : Extern.allGenericRows.lookup "internal/bytealg.MakeNoZero" = none := by kernel_rfl
theorem typ_indexByte : Extern.allTypedRows.lookup "internal/bytealg.IndexByteString" = none := by kernel_rfl
theorem typ_count : Extern.allTypedRows.lookup "internal/bytealg.CountString" = none := by kernel_rfl
theorem typ_noEscape : Extern.allTypedRows.lookup "internal/abi.NoEscape" = none := by kernel_rfl
theorem typ_makeNoZero : Extern.allTypedRows.lookup "internal/bytealg.MakeNoZero" = some Extern.BytealgMakeNoZero.makeNoZero := by kernel_rfl
theorem row_indexByte : Extern.allRows.lookup "internal/bytealg.IndexByteString" = some Extern.BytealgIndexByte.indexByte := by kernel_rfl
theorem row_count : Extern.allRows.lookup "internal/bytealg.CountString" = some Extern.BytealgCount.count := by kernel_rfl
theorem row_noEscape : Extern.allRows.lookup "internal/abi.NoEscape" = some Extern.AbiNoEscape.same := by kernel_rfl

theorem findB_sound {s : ByteArray} {n a : Nat} (hs : s.data.toList = decode n a) (ha : a < 256 ^ n) {c : Nat} (hc : c < 256) : ∀ (k i : Nat), i + k = n →
    findB a c k i = match ((List.range' i k).find? fun i => s[i]! == (UInt8.ofNat c)) with | some i => (i : Int) | none => -1
  | 0, i, h => by simp [findB]
  | k + 1, i, h => by
    have hget : s[i]! = UInt8.ofNat (byteAt a i) := by
      have h3 := decode_get n a i (by omega)
      rw [← hs, Array.getElem?_toList] at h3
      have hsz : s.data.size = n := size_of_data hs
      have hi : i < s.data.size := by omega
      rw [getElem!_pos s i (show i < s.size from hi)]
      show s.data[i] = _
      rw [Array.getElem?_eq_getElem hi] at h3
      simpa using h3
    have hbt : byteAt a i < 256 := Nat.mod_lt _ (by omega)
    have heq : (s[i]! == UInt8.ofNat c) = Nat.beq (byteAt a i) c := by
      rw [hget, Bool.eq_iff_iff]
      simp only [beq_iff_eq]
      constructor
      · intro e
        have := congrArg UInt8.toNat e
        simp only [UInt8.toNat_ofNat'] at this
        rw [Nat.mod_eq_of_lt hbt, Nat.mod_eq_of_lt hc] at this
        rw [this]; exact Nat.beq_refl _
      · intro e; rw [Nat.eq_of_beq_eq_true e]
    simp only [findB, List.range'_succ, List.find?_cons, heq]
    cases Nat.beq (byteAt a i) c with
    | true => rfl
    | false =>
      simp only [cond_false]
      exact findB_sound hs ha hc k (i + 1) (by omega)

theorem countB_sound {c : Nat} (hc : c < 256) : ∀ (n a acc : Nat), (decode n a).foldl (fun n x => if x == UInt8.ofNat c then n + 1 else n) acc = countB a c n acc
  | 0, a, acc => rfl
  | n + 1, a, acc => by
    have hbt : a % 256 < 256 := Nat.mod_lt _ (by omega)
    have heq : (UInt8.ofNat (a % 256) == UInt8.ofNat c) = Nat.beq (a % 256) c := by
      rw [Bool.eq_iff_iff]
      simp only [beq_iff_eq]
      constructor
      · intro e
        have := congrArg UInt8.toNat e
        simp only [UInt8.toNat_ofNat'] at this
        rw [Nat.mod_eq_of_lt hbt, Nat.mod_eq_of_lt hc] at this
        rw [this]; exact Nat.beq_refl _
      · intro e; rw [Nat.eq_of_beq_eq_true e]
    simp only [decode, List.foldl_cons, countB, heq]
    rw [countB_sound hc n]
    cases Nat.beq (a % 256) c <;> rfl

theorem count_foldlN (c : UInt8) : ∀ (l : List UInt8) (n : Nat), l.foldl (fun n x => if x == c then n + 1 else n) n = n + Lib.countByte l c
  | [], n => by simp [Lib.countByte]
  | b :: l, n => by
    rw [List.foldl_cons, count_foldlN c l]
    unfold Lib.countByte
    rw [List.count_cons]
    split <;> simp_all <;> omega

theorem digits_size : ∀ (n t : Nat) (acc : Array Value), (Extern.BytealgMakeNoZero.digits n t acc).size = acc.size + n
  | 0, t, acc => rfl
  | n + 1, t, acc => by simp only [Extern.BytealgMakeNoZero.digits]; rw [digits_size n]; simp; omega

/-- A call that the model answers by itself. -/
theorem ext_sound (r : Rel E β h w) {f : FuncId} {fn : Func} (hf : P.funcs[f]? = some fn) (hb : fn.body = none) {k : ExtK} (hk : extOf fn = some k) {args : List AVal} {cargs : List Value} {v : AVal} {h' : Hp}
    (he : evalExt P k fn args h = some (v, h')) (hr : VRs E.ρ β args cargs) : Does P E β h w (callFunc f cargs.toArray) v h' := by
  have horg : fn.origin = "" := by
    unfold extOf at hk
    cases ho : (fn.origin == "") with
    | false => rw [ho] at hk; simp at hk
    | true => exact eq_of_beq ho
  have hname : (k matches .indexByte) = true ∧ fn.name = "internal/bytealg.IndexByteString" ∨ (k matches .count) = true ∧ fn.name = "internal/bytealg.CountString" ∨
      (k matches .noEscape) = true ∧ fn.name = "internal/abi.NoEscape" ∨ (k matches .makeNoZero) = true ∧ fn.name = "internal/bytealg.MakeNoZero" := by
    unfold extOf at hk
    rw [horg] at hk
    simp only [beq_self_eq_true, Bool.not_true, cond_false] at hk
    cases h1 : (fn.name == "internal/bytealg.IndexByteString") with
    | true => rw [h1] at hk; simp only [cond_true, Option.some.injEq] at hk; subst hk; exact .inl ⟨rfl, eq_of_beq h1⟩
    | false =>
      rw [h1] at hk; simp only [cond_false] at hk
      cases h2 : (fn.name == "internal/bytealg.CountString") with
      | true => rw [h2] at hk; simp only [cond_true, Option.some.injEq] at hk; subst hk; exact .inr (.inl ⟨rfl, eq_of_beq h2⟩)
      | false =>
        rw [h2] at hk; simp only [cond_false] at hk
        cases h3 : (fn.name == "internal/abi.NoEscape") with
        | true => rw [h3] at hk; simp only [cond_true, Option.some.injEq] at hk; subst hk; exact .inr (.inr (.inl ⟨rfl, eq_of_beq h3⟩))
        | false =>
          rw [h3] at hk; simp only [cond_false] at hk
          cases h4 : (fn.name == "internal/bytealg.MakeNoZero") with
          | true => rw [h4] at hk; simp only [cond_true, Option.some.injEq] at hk; subst hk; exact .inr (.inr (.inr ⟨rfl, eq_of_beq h4⟩))
          | false => rw [h4] at hk; simp at hk
  have hbn : fn.body.isNone = true := by rw [hb]; rfl
  have fin : ∀ {e : Array Value → Sem Value} {cv : Value} {w' : World}, (callFunc f cargs.toArray).run P w = ((e cargs.toArray).run P w).andThen (fun v w' => .ok (.value v) w') → (e cargs.toArray).run P w = .ok cv w' →
      ∀ β', VR E.ρ β' v cv → Rel E β' h' w' → Frm β h w β' h' w' → Does P E β h w (callFunc f cargs.toArray) v h' := fun h1 h2 β' h3 h4 h5 =>
    ⟨_, _, β', _, by rw [h1, h2]; rfl, .inl rfl, h3, h4, h5⟩
  cases k with
  | indexByte =>
    rcases hname with ⟨_, hn⟩ | ⟨hx, _⟩ | ⟨hx, _⟩ | ⟨hx, _⟩
    case inr.inl => cases hx
    case inr.inr.inl => cases hx
    case inr.inr.inr => cases hx
    have hcall := run_callFunc_extern (P := P) hf (by rw [hn]; rfl) hbn (e := Extern.BytealgIndexByte.indexByte) (by simp [Extern.findNext, hn, horg, next_empty, next_indexByte]) (by simp [Extern.find, hn, gen_indexByte, typ_indexByte, row_indexByte]) cargs.toArray w
    unfold evalExt at he
    split at he
    case h_1 n a c _ _ _ =>
      cases hr with | @cons _ _ cx cl hx hr =>
      cases hr with | @cons _ _ cy cl hy hr =>
      cases hr; cases hy
      cases hx with | @str _ _ s h1 h2 =>
      cases hlt : Nat.blt c 256 with
      | false => rw [hlt] at he; cases he
      | true =>
        rw [hlt, cond_true] at he; simp only [Option.some.injEq, Prod.mk.injEq] at he
        obtain ⟨rfl, rfl⟩ := he
        have hc : c < 256 := by simpa [Nat.blt_eq] using hlt
        have hrun := run_indexByte_string (P := P) s (Int.ofNat c) w
        refine fin hcall hrun β ?_ r (.refl _ _ _)
        have hfirst : firstIdx s (Int.ofNat c).toNat.toUInt8 = findB a c n 0 := by
          rw [findB_sound h1 h2 hc n 0 (by omega), ← List.range_eq_range']
          have hsz := size_of_data h1
          unfold firstIdx
          rw [hsz]
          rfl
        rw [hfirst]
        exact .int _ _
    all_goals first | (rename_i hx _ _; cases hx; done) | (cases he; done)
  | count =>
    rcases hname with ⟨hx, _⟩ | ⟨_, hn⟩ | ⟨hx, _⟩ | ⟨hx, _⟩
    case inl => cases hx
    case inr.inr.inl => cases hx
    case inr.inr.inr => cases hx
    have hcall := run_callFunc_extern (P := P) hf (by rw [hn]; rfl) hbn (e := Extern.BytealgCount.count) (by simp [Extern.findNext, hn, horg, next_empty, next_count]) (by simp [Extern.find, hn, gen_count, typ_count, row_count]) cargs.toArray w
    unfold evalExt at he
    split at he
    case h_2 n a c _ _ _ =>
      cases hr with | @cons _ _ cx cl hx hr =>
      cases hr with | @cons _ _ cy cl hy hr =>
      cases hr; cases hy
      cases hx with | @str _ _ s h1 h2 =>
      cases hlt : Nat.blt c 256 with
      | false => rw [hlt] at he; cases he
      | true =>
        rw [hlt, cond_true] at he; simp only [Option.some.injEq, Prod.mk.injEq] at he
        obtain ⟨rfl, rfl⟩ := he
        have hc : c < 256 := by simpa [Nat.blt_eq] using hlt
        have hrun := Lib.run_countString (P := P) s (Int.ofNat c) w
        refine fin hcall hrun β ?_ r (.refl _ _ _)
        have hfirst : Lib.countByte s.data.toList (Int.ofNat c).toNat.toUInt8 = countB a c n 0 := by
          rw [h1, ← countB_sound hc n a 0, count_foldlN, Nat.zero_add]
          rfl
        rw [hfirst]
        exact .int _ _
    all_goals first | (rename_i hx _ _; cases hx; done) | (cases he; done)
  | noEscape =>
    rcases hname with ⟨hx, _⟩ | ⟨hx, _⟩ | ⟨_, hn⟩ | ⟨hx, _⟩
    case inl => cases hx
    case inr.inl => cases hx
    case inr.inr.inr => cases hx
    have hcall := run_callFunc_extern (P := P) hf (by rw [hn]; rfl) hbn (e := Extern.AbiNoEscape.same) (by simp [Extern.findNext, hn, horg, next_empty, next_noEscape]) (by simp [Extern.find, hn, gen_noEscape, typ_noEscape, row_noEscape]) cargs.toArray w
    unfold evalExt at he
    split at he
    case h_3 x _ _ _ =>
      cases hr with | @cons _ _ cx cl hx hr =>
      cases hr
      simp only [Option.some.injEq, Prod.mk.injEq] at he
      obtain ⟨rfl, rfl⟩ := he
      exact fin hcall (cv := cx) (w' := w) rfl β hx r (.refl _ _ _)
    all_goals first | (rename_i hx _ _; cases hx; done) | (cases he; done)
  | makeNoZero =>
    rcases hname with ⟨hx, _⟩ | ⟨hx, _⟩ | ⟨hx, _⟩ | ⟨_, hn⟩
    case inl => cases hx
    case inr.inl => cases hx
    case inr.inr.inl => cases hx
    have hcall := run_callFunc_extern (P := P) hf (by rw [hn]; rfl) hbn (e := Extern.BytealgMakeNoZero.makeNoZero fn.params fn.resultTypes) (by simp [Extern.findNext, hn, horg, next_empty, next_makeNoZero]) (by simp [Extern.find, hn, gen_makeNoZero, typ_makeNoZero]) cargs.toArray w
    unfold evalExt at he
    split at he
    case h_4 n _ _ _ =>
      cases hr with | @cons _ _ cx cl hx hr =>
      cases hr; cases hx
      split at he
      · rename_i e hel
        split at hel
        · rename_i t ht
          cases hc : decide (0 ≤ n) && decide (n ≤ 281474976710656) with
          | false => rw [hc] at he; cases he
          | true =>
            rw [hc, cond_true] at he; simp only [Option.some.injEq, Prod.mk.injEq] at he
            obtain ⟨rfl, rfl⟩ := he
            simp only [Bool.and_eq_true, decide_eq_true_eq] at hc
            obtain ⟨m, rfl⟩ := Int.eq_ofNat_of_zero_le hc.1
            obtain ⟨cs, hrun, hle, _⟩ := Lib.run_makeNoZero (P := P) w fn.params t e (elemSlice_some hel) m (by omega)
            have hrt : fn.resultTypes = #[t] := by rw [← Array.toArray_toList (xs := fn.resultTypes), ht]
            rw [hrt] at hcall
            obtain ⟨h1, h2⟩ := new_rel r (w' := w.drew.drew.alloc (.cells cs e)) (x := .cells e 0 0 .e) (o := .cells cs e) (sz := cs.size) rfl rfl rfl rfl
              ⟨rfl, rfl, rfl, fun i v hi => (by rw [T.get_e] at hi; cases hi), .inl rfl⟩
            refine fin hcall hrun _ ?_ h1 h2
            exact .slice (upd_same _ _ _) (by omega) (Nat.le_refl _) (by simpa using hle) (fun h => by cases h) (by simp)
        · cases hel
      · cases he
    all_goals first | (rename_i hx _ _; cases hx; done) | (cases he; done)
end
end Go.Ae
/- What a call comes to, and one operation as a step of a region. -/
set_option linter.unusedVariables false
set_option linter.unusedSimpArgs false
set_option maxHeartbeats 1000000
namespace Go.Ae
open Go

/-- How a call ends. -/
def Ret (E : Env) (β : Beta) (h : Hp) (w : World) (v : AVal) (h' : Hp) : Ending → World → Prop :=
  fun e w' => ∃ cv β', e = .returned cv ∧ VR E.ρ β' v cv ∧ Rel E β' h' w' ∧ Frm β h w β' h' w'
def CallOk (P : Program) (E : Env) (f : FuncId) (args : List AVal) (h : Hp) (v : AVal) (h' : Hp) : Prop :=
  ∀ β w cargs, Rel E β h w → VRs E.ρ β args cargs → Calls P f cargs.toArray w (Ret E β h w v h')
def StepOk (P : Program) (E : Env) (β : Beta) (h : Hp) (w : World) (s : Sem Next) (v : AVal) (h' : Hp) : Prop :=
  Does P E β h w s v h' ∨ ∃ f cargs, s.run P w = .ok (.enter f cargs) w ∧ Calls P f cargs w (Ret E β h w v h')

section
variable {P : Program} {E : Env} {β : Beta} {h : Hp} {w : World}

theorem wp_of_step {o : Oper} {a : Act} {v : AVal} {h' : Hp} {K : Act → World → Prop} {Q : Exit → Act → World → Prop} (hs : StepOk P E β h w (execOp a.eval o) v h')
    (hK : ∀ cv β' w', VR E.ρ β' v cv → Rel E β' h' w' → Frm β h w β' h' w' → K (a.put o.dst cv) w') : o.wp P a w K Q := by
  unfold Oper.wp
  rcases hs with ⟨nx, cv, β', w', hr, hn, hv, hrel, hfrm⟩ | ⟨f, cargs, hr, hc⟩
  · rw [hr]
    rcases hn with rfl | ⟨rfl, rfl⟩
    · exact hK _ _ _ hv hrel hfrm
    · exact hK _ _ _ hv hrel hfrm
  · rw [hr]
    refine Calls.mono hc fun e w' he => ?_
    obtain ⟨cv, β', rfl, hv, hrel, hfrm⟩ := he
    exact hK _ _ _ hv hrel hfrm

theorem method_sound {t : TypeId} {v recv : AVal} {name : String} {f : FuncId} (hm : methodA P t v name = some (f, recv)) {cv : Value} (hv : VR E.ρ β v cv) (k : Nat) :
    ∃ cr, VR E.ρ β recv cr ∧ ∀ w, (method (k + 1) t cv name).run P w = .ok (f, cr) w := by
  unfold methodA at hm
  split at hm
  · rename_i i hi
    split at hm
    · rename_i m hf
      cases hp : m.path.isEmpty with
      | false => rw [hp] at hm; cases hm
      | true =>
        rw [hp, cond_true] at hm
        have hnil : m.path.toList = [] := by simpa using hp
        have key : ∀ (d : TypeDesc) (b : Bool), und P t = some d → m.func = some (f, b) → ((∃ e, d = .pointer e) ↔ b = true) → ∀ w, (method (k + 1) t cv name).run P w = .ok (f, cv) w := by
          intro d b hu hfn hd w
          have hu' : P.underlying t = some d := hu
          simp only [method, typeInfo, hi, Sem.run_bind, hf, hnil, follow, hfn]
          cases b with
          | true =>
            obtain ⟨e, rfl⟩ := hd.2 rfl
            simp [typeInfo, hi, receiverAt, run_underlying hu', Place.get, hf, hnil, follow, hfn]
          | false =>
            have hne : ∀ e, d ≠ .pointer e := fun e he => by have := hd.1 ⟨e, he⟩; cases this
            cases d <;> first | exact absurd rfl (hne _) | simp [typeInfo, hi, receiverAt, run_underlying hu', Place.get, hf, hnil, follow, hfn]
        split at hm
        · rename_i f' e hfn hu
          simp only [Option.some.injEq, Prod.mk.injEq] at hm
          obtain ⟨rfl, rfl⟩ := hm
          exact ⟨cv, hv, key _ true hu hfn ⟨fun _ => rfl, fun _ => ⟨_, rfl⟩⟩⟩
        · cases hm
        · rename_i f' d hne hfn hu
          simp only [Option.some.injEq, Prod.mk.injEq] at hm
          obtain ⟨rfl, rfl⟩ := hm
          refine ⟨cv, hv, key _ false hu hfn ⟨fun ⟨e, he⟩ => ?_, fun h => by cases h⟩⟩
          subst he
          exact (hne _ rfl).elim
        · cases hm
    · cases hm
  · cases hm

theorem target_sound {n : Nat} {fr : T AVal} {a : Act} {o : Oper} {c : Call} (ho : o.op = .call c) {f : FuncId} {args : List AVal} (ht : targetA P fr c = some (f, args)) (hf : FrR E β n fr a) :
    ∃ cargs, VRs E.ρ β args cargs ∧ ∀ w, (execOp a.eval o).run P w = (callFunc f cargs.toArray).run P w := by
  unfold targetA at ht
  split at ht
  · rename_i as has
    have hargs := opdsA_sound hf has
    split at ht
    · rename_i g hc
      split at ht
      · rename_i f' first captured hg
        simp only [Option.some.injEq, Prod.mk.injEq] at ht
        obtain ⟨rfl, rfl⟩ := ht
        have hv := opdA_sound hf hg
        generalize hcv : a.eval g = cv at hv
        cases hv with | @func _ _ _ vs ws h1 h2 =>
        refine ⟨vs.toList ++ c.args.toList.map a.eval ++ ws.toList, (h1.append hargs).append h2, fun w => ?_⟩
        simp [execOp, ho, resolve, hc, hcv, Deferred.ofValue, invoke]
        congr 2
        apply Array.ext'
        simp
      · cases ht
    · rename_i g name hc
      split at ht
      · rename_i t v hg
        have hv := opdA_sound hf hg
        generalize hcv : a.eval g = cv at hv
        cases hv with | @iface _ _ cv hv =>
        split at ht
        · rename_i f' recv hm
          simp only [Option.some.injEq, Prod.mk.injEq] at ht
          obtain ⟨rfl, rfl⟩ := ht
          obtain ⟨cr, hcr, hrun⟩ := method_sound hm hv (P.types.size + (Made.depth - 1))
          refine ⟨cr :: c.args.toList.map a.eval, .cons hcr hargs, fun w => ?_⟩
          have hrun' : (method (P.types.size + Made.depth) t cv name).run P w = .ok (f', cr) w := hrun w
          have h0 : (#[Value.iface t cv] ++ Array.map a.eval c.args)[0]? = some (Value.iface t cv) := by
            rw [Array.getElem?_append_left (by simp)]; rfl
          have h1 : (Array.map a.eval c.args).extract 0 c.args.size = Array.map a.eval c.args := by
            have e : c.args.size = (Array.map a.eval c.args).size := by simp
            rw [e]; exact Array.extract_size
          simp [execOp, ho, resolve, hc, hcv, invoke]
          rw [h0]
          simp [callMethod, program, h1]
          show ((Sem.run P (method (P.types.size + Made.depth) t cv name) w).andThen fun a_2 w' => Sem.run P (callFunc a_2.fst (#[a_2.snd] ++ Array.map a.eval c.args)) w') = _
          rw [hrun']
          show Sem.run P (callFunc f' (#[cr] ++ Array.map a.eval c.args)) w = _
          congr 2; apply Array.ext'; simp
        · cases ht
      · cases ht
    · cases ht
  · cases ht
end
end Go.Ae
