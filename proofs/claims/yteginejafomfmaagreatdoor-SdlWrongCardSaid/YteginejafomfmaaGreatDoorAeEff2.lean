/- Operations that write: the rest. -/
import Derived.Test.YteginejafomfmaaGreatDoorAeApp
import Derived.Lib.ConvBytes
set_option linter.unusedSimpArgs false
set_option linter.unusedVariables false
set_option maxHeartbeats 1000000
namespace Go.Ae
open Go

section
variable {P : Program} {E : Env} {β : Beta} {h : Hp} {w : World}

/-- What an effect comes to, where the model answers a value. -/
def DoesV (P : Program) (E : Env) (β : Beta) (h : Hp) (w : World) (s : Sem Value) (v : AVal) (h' : Hp) : Prop :=
  ∃ cv β' w', s.run P w = .ok cv w' ∧ VR E.ρ β' v cv ∧ Rel E β' h' w' ∧ Frm β h w β' h' w'
def DoesU (P : Program) (E : Env) (β : Beta) (h : Hp) (w : World) (s : Sem Unit) (h' : Hp) : Prop :=
  ∃ β' w', s.run P w = .ok () w' ∧ Rel E β' h' w' ∧ Frm β h w β' h' w'
theorem DoesV.op {s : Sem Value} {v : AVal} {h' : Hp} (d : DoesV P E β h w s v h') : Does P E β h w (do Pure.pure (Next.value (← s))) v h' :=
  let ⟨cv, β', w', h1, h2, h3, h4⟩ := d
  ⟨_, cv, β', w', by simp [h1], .inl rfl, h2, h3, h4⟩
theorem DoesU.op {s : Sem Unit} {h' : Hp} (d : DoesU P E β h w s h') : Does P E β h w (do s; Pure.pure .skip) .undef h' :=
  let ⟨β', w', h1, h3, h4⟩ := d
  ⟨_, undef, β', w', by simp [h1], .inr ⟨rfl, rfl⟩, .tuple .nil, h3, h4⟩

theorem copy_sound (r : Rel E β h w) {ts : List TypeId} {t ty : TypeId} {dst src v : AVal} {cd cs : Value} {rest : List Value} {h' : Hp} (ha : copyOp P t dst src h = some (v, h')) (hd : VR E.ρ β dst cd) (hs : VR E.ρ β src cs) :
    DoesV P E β h w (Builtin.copy_ (t :: ts).toArray ty #[cd, cs]) v h' := by
  unfold copyOp und at ha
  split at ha
  · rename_i e n b off len cap ex sz hu hl
    cases hd with | @slice _ _ _ _ _ c _ L hL hsz0 hlc hcap hex hz =>
    split at ha
    · rename_i size hsz
      split at ha
      · rename_i new eb ext fz tr hcs hb
        cases hc : (Nat.beq sz size && (Nat.beq (Nat.min n len) 0 || Nat.ble fz off)) with
        | false => rw [hc] at ha; cases ha
        | true =>
          rw [hc, cond_true] at ha; simp only [Option.some.injEq, Prod.mk.injEq] at ha
          obtain ⟨rfl, rfl⟩ := ha
          simp only [Bool.and_eq_true, Bool.or_eq_true] at hc
          have := Nat.eq_of_beq_eq_true hc.1; subst this
          obtain ⟨vs, hsrc⟩ := src_sound (P := P) r hcs hs (by rw [hl]; exact Nat.min_le_left _ _)
          have hlen := lenA_sound (P := P) hl hs w
          obtain ⟨h0, ca, f, hw, hsize, hcr, hfr⟩ := r.row hb hL
          have hk : Nat.min n len * sz ≤ c * sz := Nat.mul_le_mul_right _ (Nat.le_trans (Nat.min_le_right _ _) (by omega))
          have hnl : new.length = Nat.min n len * sz := by rw [hsrc.rel.length]; exact hsrc.len
          have hst : ∃ w' cur', (storeCells ⟨L.blk, L.sh + off, none⟩ vs).run P w = .ok () w' ∧ w'.heap[L.blk]? = some (.cells cur' eb f) ∧ cur'.size = ca.size ∧
              (∀ k, cur'[k]? = if L.sh + off ≤ k ∧ k < L.sh + off + vs.length then vs[k - (L.sh + off)]? else ca[k]?) ∧ OneBlk L.blk w w' := by
            rcases hc.2 with e | e
            · have e0 : Nat.min n len = 0 := Nat.eq_of_beq_eq_true e
              have : vs = [] := List.eq_nil_of_length_eq_zero (by rw [hsrc.len, e0]; simp)
              subst this
              exact ⟨w, ca, rfl, hw, rfl, fun k => by rw [if_neg (by simp)], .refl _ _⟩
            · have e' := Nat.le_of_ble_eq_true e
              obtain ⟨w', cur', k1, k2, k3, k4, k5⟩ := run_storeRow (P := P) L.blk (L.sh + off) eb f vs 0 ca w hw (by rcases hfr with q | q; exact .inl q; exact .inr (by omega)) (by rw [hsrc.len]; omega) hsrc.one
              exact ⟨w', cur', k1, k2, k3, k4, k5⟩
          obtain ⟨w', cur', k1, k2, k3, k4, k5⟩ := hst
          obtain ⟨q1, q2⟩ := r.writeRow hb hL k5 k2 (x' := .cells eb (Nat.max ext (off + Nat.min n len * sz)) fz (fillT new off tr)) ⟨h0, rfl, by omega, by
            refine cells_write hcr hsrc.rel hsrc.one k4 (Nat.le_max_left _ _) (by rw [hnl]; exact Nat.le_max_right _ _), hfr⟩
          refine ⟨.int .i64 (Nat.min n len : Nat), β, w', ?_, .int _ _, q1, q2⟩
          simp [Builtin.copy_, run_underlying hu, hlen, sizeT_sound hsz, hsrc.run, k1, goInt]
      · cases ha
    · cases ha
  · rename_i e n hu hl
    cases hd
    split at ha
    · rename_i size hsz
      split at ha
      · rename_i l hcs
        simp only [Option.some.injEq, Prod.mk.injEq] at ha
        obtain ⟨rfl, rfl⟩ := ha
        obtain ⟨vs, hsrc⟩ := src_sound (P := P) r hcs hs (Nat.zero_le _)
        have hlen := lenA_sound (P := P) hl hs w
        have hm : Nat.min n 0 = 0 := Nat.min_zero n
        exact ⟨.int .i64 0, β, w, by simp [Builtin.copy_, run_underlying hu, hlen, sizeT_sound hsz, hm, hsrc.run, goInt], .int _ _, r, .refl _ _ _⟩
      · cases ha
    · cases ha
  · cases ha

/-! Maps. -/
theorem run_setMap {r : Nat} {ms : Array MapEntry} {clock : Nat} {o : Obj} (hw : w.heap[r]? = some (.map ms clock)) :
    (setObj r o).run P w = .ok () { w with heap := w.heap.setIfInBounds r o } := by
  simp [setObj, Sem.run, hw]
theorem set_one (w : World) (r : Nat) (o : Obj) : OneBlk r w { w with heap := w.heap.setIfInBounds r o } :=
  ⟨fun k hk => by simp [Array.getElem?_setIfInBounds_ne (Ne.symm hk)], by simp, rfl, rfl, rfl⟩
theorem set_at {w : World} {r : Nat} {o o' : Obj} (hw : w.heap[r]? = some o) : ({ w with heap := w.heap.setIfInBounds r o' } : World).heap[r]? = some o' := by
  have hlt : r < w.heap.size := (Array.getElem?_eq_some_iff.1 hw).1
  simp [hlt]

theorem EntsR.get : ∀ {es : List Ent} {ms : List MapEntry} {i : Nat} {e : Ent}, EntsR E.ρ β es ms → es[i]? = some e → ∃ m, ms[i]? = some m ∧ VR E.ρ β e.key m.key ∧ VR E.ρ β e.val m.val ∧ e.born = m.born
  | e :: es, m :: ms, 0, e', ⟨h1, h2, h3, h4⟩, he => by simp at he; subst he; exact ⟨m, rfl, h1, h2, h3⟩
  | e :: es, m :: ms, i + 1, e', ⟨h1, h2, h3, h4⟩, he => by simpa using EntsR.get h4 (by simpa using he)
  | [], [], i, e', _, he => by simp at he
  | [], _ :: _, _, _, h, _ => h.elim
  | _ :: _, [], _, _, h, _ => h.elim
theorem EntsR.erase : ∀ {es : List Ent} {ms : List MapEntry} (i : Nat), EntsR E.ρ β es ms → EntsR E.ρ β (es.eraseIdx i) (ms.eraseIdx i)
  | [], [], i, _ => by simp [EntsR]
  | e :: es, m :: ms, 0, ⟨_, _, _, h4⟩ => by simpa using h4
  | e :: es, m :: ms, i + 1, ⟨h1, h2, h3, h4⟩ => by simpa using ⟨h1, h2, h3, EntsR.erase i h4⟩
  | [], _ :: _, _, h => h.elim
  | _ :: _, [], _, h => h.elim
theorem EntsR.modify {k v : AVal} {ck cv : Value} (hk : VR E.ρ β k ck) (hv : VR E.ρ β v cv) : ∀ {es : List Ent} {ms : List MapEntry} (i : Nat), EntsR E.ρ β es ms →
    EntsR E.ρ β (es.modify i fun e => { e with key := k, val := v }) (ms.modify i fun e => { e with key := ck, val := cv })
  | [], [], i, _ => by simp [EntsR]
  | e :: es, m :: ms, 0, ⟨_, _, h3, h4⟩ => by simpa [List.modify_cons] using ⟨hk, hv, h3, h4⟩
  | e :: es, m :: ms, i + 1, ⟨h1, h2, h3, h4⟩ => by simpa [List.modify_cons] using ⟨h1, h2, h3, EntsR.modify hk hv i h4⟩
  | [], _ :: _, _, h => h.elim
  | _ :: _, [], _, h => h.elim
theorem EntsR.push : ∀ {es : List Ent} {ms : List MapEntry} {e : Ent} {m : MapEntry}, EntsR E.ρ β es ms → VR E.ρ β e.key m.key → VR E.ρ β e.val m.val → e.born = m.born → EntsR E.ρ β (es ++ [e]) (ms ++ [m])
  | [], [], e, m, _, h1, h2, h3 => ⟨h1, h2, h3, trivial⟩
  | _ :: es, _ :: ms, e, m, ⟨g1, g2, g3, g4⟩, h1, h2, h3 => ⟨g1, g2, g3, EntsR.push g4 h1 h2 h3⟩
  | [], _ :: _, _, _, h, _, _, _ => h.elim
  | _ :: _, [], _, _, h, _, _, _ => h.elim

theorem delete_sound (r : Rel E β h w) {ts : List TypeId} {t ty : TypeId} {m k v : AVal} {cm ck : Value} {h' : Hp} (ha : deleteOp P t m k h = some (v, h')) (hm : VR E.ρ β m cm) (hk : VR E.ρ β k ck) :
    DoesV P E β h w (Builtin.delete_ (t :: ts).toArray ty #[cm, ck]) v h' := by
  unfold deleteOp und at ha
  split at ha
  · rename_i kt et b hu
    cases hm with | @map _ L hL =>
    split at ha
    · rename_i es clock hb
      cases hf : keyFits P kt k with
      | false => rw [hf] at ha; cases ha
      | true =>
        rw [hf, cond_true] at ha
        obtain ⟨ms, hw, he, h0⟩ := r.mapObj hb hL
        have hck := fun w => run_checkKey (P := P) (w := w) hf ms.isEmpty 9999 ck
        split at ha
        · rename_i i x hfd
          simp only [Option.some.injEq, Prod.mk.injEq] at ha
          obtain ⟨rfl, rfl⟩ := ha
          obtain ⟨cres, g1, g2⟩ := findKey_sound hk hf he hfd
          cases cres with
          | none => exact g2.elim
          | some q =>
            obtain ⟨j, cv⟩ := q
            obtain ⟨rfl, hv⟩ := g2
            obtain ⟨q1, q2⟩ := r.writeRow hb hL (set_one w L.blk (.map (ms.eraseIdxIfInBounds i) clock)) (set_at hw) (x' := .map (es.eraseIdx i) clock) ⟨rfl, h0, by
              have : (ms.eraseIdxIfInBounds i).toList = ms.toList.eraseIdx i := by
                unfold Array.eraseIdxIfInBounds
                split
                · simp
                · rename_i hn; rw [List.eraseIdx_of_length_le (by simpa using hn)]
              rw [this]; exact he.erase i⟩
            refine ⟨.tuple #[], β, _, ?_, .tuple .nil, q1, q2⟩
            simp [Builtin.delete_, run_underlying hu, run_getMap hw, hck, g1, run_setMap hw]
        · rename_i hfd
          simp only [Option.some.injEq, Prod.mk.injEq] at ha
          obtain ⟨rfl, rfl⟩ := ha
          obtain ⟨cres, g1, g2⟩ := findKey_sound hk hf he hfd
          cases cres with
          | some q => exact g2.elim
          | none =>
            obtain ⟨q1, q2⟩ := r.writeRow hb hL (set_one w L.blk (.map ms clock)) (set_at hw) (x' := .map es clock) ⟨rfl, h0, he⟩
            refine ⟨.tuple #[], β, _, ?_, .tuple .nil, q1, q2⟩
            simp [Builtin.delete_, run_underlying hu, run_getMap hw, hck, g1, run_setMap hw]
        · cases ha
    · cases ha
  · cases ha

theorem find_same {k : AVal} {ck : Value} (hk : VR E.ρ β k ck) : ∀ {es : List Ent} {ms : List MapEntry} {j i : Nat} {x : AVal}, findE k es j = some (some (i, x)) → EntsR E.ρ β es ms →
    ∃ d m, i = j + d ∧ ms[d]? = some m ∧ ∀ n, Instr.sameBits n m.key ck = true
  | [], ms, j, i, x, hf, _ => by simp [findE] at hf
  | e :: es, [], j, i, x, hf, h => h.elim
  | e :: es, m :: ms, j, i, x, hf, ⟨h1, h2, h3, h4⟩ => by
    have ih : findE k es (j + 1) = some (some (i, x)) → ∃ d m', i = j + d ∧ (m :: ms)[d]? = some m' ∧ ∀ n, Instr.sameBits n m'.key ck = true := fun hf => by
      obtain ⟨d, m', e1, e2, e3⟩ := find_same hk hf h4
      exact ⟨d + 1, m', by omega, by simpa using e2, e3⟩
    generalize hmk : m.key = mk at h1
    generalize hke : e.key = ke at h1
    simp only [findE, hke] at hf
    split at hf
    · rename_i j1 a j2 b
      cases hk; cases h1
      cases hj : (j1 == j2) with
      | false => rw [hj] at hf; cases hf
      | true =>
        rw [hj, cond_true] at hf
        have := eq_of_beq hj; subst this
        cases hab : (a == b) with
        | true =>
          rw [hab, cond_true] at hf; simp only [Option.some.injEq, Prod.mk.injEq] at hf
          have := eq_of_beq hab; subst this
          exact ⟨0, m, by omega, rfl, fun n => by rw [hmk]; cases n <;> simp [Instr.sameBits]⟩
        | false => rw [hab, cond_false] at hf; exact ih hf
    · rename_i n1 a n2 b
      cases hk with | @str _ _ s s1 s2 =>
      cases h1 with | @str _ _ s' s3 s4 =>
      cases hb : (Nat.beq n1 n2 && Nat.beq a b) with
      | true =>
        rw [hb, cond_true] at hf; simp only [Option.some.injEq, Prod.mk.injEq] at hf
        have hab : (s' == s) = true := by
          rw [beq_toListBytes, str_beq s3 s4 s1 s2]
          simp only [Bool.and_eq_true] at hb ⊢
          rw [Nat.eq_of_beq_eq_true hb.1, Nat.eq_of_beq_eq_true hb.2]
          exact ⟨Nat.beq_refl _, Nat.beq_refl _⟩
        exact ⟨0, m, by omega, rfl, fun n => by rw [hmk]; cases n <;> simp only [Instr.sameBits, hab]⟩
      | false => rw [hb, cond_false] at hf; exact ih hf
    · rename_i a b
      cases hk; cases h1
      cases hb : (a == b) with
      | true =>
        rw [hb, cond_true] at hf; simp only [Option.some.injEq, Prod.mk.injEq] at hf
        have := eq_of_beq hb; subst this
        exact ⟨0, m, by omega, rfl, fun n => by rw [hmk]; cases n <;> simp [Instr.sameBits]⟩
      | false => rw [hb, cond_false] at hf; exact ih hf
    · cases hf

theorem mapPut_sound (r : Rel E β h w) {t : TypeId} {m k v x : AVal} {cm ck cv : Value} {h' : Hp} (ha : mapPut P h t m k v = some (x, h')) (hm : VR E.ρ β m cm) (hk : VR E.ρ β k ck) (hv : VR E.ρ β v cv) :
    x = .undef ∧ DoesU P E β h w (Instr.mapUpdate t cm ck cv) h' := by
  unfold mapPut und at ha
  split at ha
  · rename_i kt et b hu
    cases hm with | @map _ L hL =>
    split at ha
    · rename_i es clock hb
      cases hf : keyFits P kt k with
      | false => rw [hf] at ha; cases ha
      | true =>
        rw [hf] at ha; simp only [Bool.not_true, cond_false] at ha
        obtain ⟨ms, hw, he, h0⟩ := r.mapObj hb hL
        have hck := fun w => run_checkKey (P := P) (w := w) hf false 9999 ck
        split at ha
        · rename_i i x' hfd
          simp only [Option.some.injEq, Prod.mk.injEq] at ha
          obtain ⟨rfl, rfl⟩ := ha
          obtain ⟨cres, g1, g2⟩ := findKey_sound hk hf he hfd
          cases cres with
          | none => exact g2.elim
          | some q =>
            obtain ⟨j, cv'⟩ := q
            obtain ⟨rfl, _⟩ := g2
            obtain ⟨d, m, e1, e2, e3⟩ := find_same hk hfd he
            have e1' : i = d := by omega
            subst e1'
            have hkey : (((ms[i]?).map (·.key)).getD ck) = m.key := by
              have : ms[i]? = some m := by simpa using e2
              simp [this]
            obtain ⟨q1, q2⟩ := r.writeRow hb hL (set_one w L.blk (.map (ms.modify i fun e => { e with key := ck, val := cv }) clock)) (set_at hw) (x' := .map (es.modify i fun e => { e with key := k, val := v }) clock) ⟨rfl, h0, by
              have : (ms.modify i fun e => { e with key := ck, val := cv }).toList = ms.toList.modify i fun e => { e with key := ck, val := cv } := by simp
              rw [this]; exact he.modify hk hv i⟩
            refine ⟨rfl, β, _, ?_, q1, q2⟩
            simp [Instr.mapUpdate, run_underlying hu, run_getMap hw, hck, g1, hkey, Instr.keyThatStays, e3, run_setMap hw]
        · rename_i hfd
          simp only [Option.some.injEq, Prod.mk.injEq] at ha
          obtain ⟨rfl, rfl⟩ := ha
          obtain ⟨cres, g1, g2⟩ := findKey_sound hk hf he hfd
          cases cres with
          | some q => exact g2.elim
          | none =>
            obtain ⟨q1, q2⟩ := r.writeRow hb hL (set_one w L.blk (.map (ms.push { key := ck, val := cv, born := clock }) (clock + 1))) (set_at hw) (x' := .map (es ++ [⟨k, v, clock⟩]) (clock + 1)) ⟨rfl, h0, by
              have : (ms.push { key := ck, val := cv, born := clock }).toList = ms.toList ++ [{ key := ck, val := cv, born := clock }] := by simp
              rw [this]; exact he.push hk hv rfl⟩
            refine ⟨rfl, β, _, ?_, q1, q2⟩
            simp [Instr.mapUpdate, run_underlying hu, run_getMap hw, hck, g1, run_setMap hw]
        · cases ha
    · cases ha
  · cases ha
end
end Go.Ae
