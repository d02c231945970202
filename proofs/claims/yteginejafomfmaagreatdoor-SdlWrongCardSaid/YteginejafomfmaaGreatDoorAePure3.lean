/- Operations that look at no memory, all of them. -/
import Derived.Test.YteginejafomfmaaGreatDoorAePure2
import Derived.Lib.Strings
set_option linter.unusedSimpArgs false
set_option linter.unusedVariables false
set_option maxHeartbeats 1000000
namespace Go.Ae
open Go

section
variable {P : Program} {E : Env} {β : Beta}

theorem un_sound {op : UnOp} {x : AVal} {cx : Value} {v : AVal} (h : unA op x = some v) (hx : VR E.ρ β x cx) : Says P E β (Op.unary op cx) v := by
  unfold unA at h
  split at h
  · cases hx; split at h
    · simp only [Option.some.injEq] at h; subst h; exact Says.pure (.bool _)
    · cases h
  · cases hx; split at h
    · simp only [Option.some.injEq] at h; subst h; exact Says.pure (.int _ _)
    · cases h
  · cases h

theorem convP_sound {src dst : TypeId} {x : AVal} {cx : Value} {v : AVal} (h : convP P src dst x = some v) (hx : VR E.ρ β x cx) : Says P E β (convert src dst cx) v := by
  unfold convP und at h
  split at h
  · rename_i hs hd; cases hx; simp only [Option.some.injEq] at h; subst h
    refine ⟨_, fun w => ?_, .int _ _⟩
    simp only [convert, run_underlying hs, run_underlying hd, Sem.run_bind, Result.andThen_ok, Conv.intToInt, Sem.run_pure]
  · rename_i hs hd
    cases hx with | @str _ _ s h1 h2 =>
    simp only [Option.some.injEq] at h; subst h
    exact ⟨.string s, fun w => by simp [convert, run_underlying hs, run_underlying hd], .str h1 h2⟩
  · rename_i hs hd; cases hx; simp only [Option.some.injEq] at h; subst h
    rename_i n
    refine ⟨.string (Utf8.encode n), fun w => by simp [convert, run_underlying hs, run_underlying hd, Conv.intToString], ?_⟩
    have e : (Utf8.encode n).size = (Utf8.encode n).data.toList.length := by rw [Array.length_toList]; rfl
    exact .str (by rw [e, decode_codeOf]) (by rw [e]; exact codeOf_lt _)
  · cases h

theorem bound_sound {x : AVal} {cx : Value} {y k : Nat} {c : Nat} {code : BoundsCode} (h : boundA x y = some k) (hx : VR E.ρ β x cx) (hc : y ≤ c) :
    k ≤ y ∧ ∀ w, (Instr.sliceBound cx c code).run P w = .ok k w := by
  unfold boundA at h
  split at h
  · cases hx
    rename_i k' n
    cases hb : (decide (0 ≤ n) && decide (n ≤ (y : Int))) with
    | false => rw [hb] at h; cases h
    | true =>
      rw [hb, cond_true] at h; simp only [Option.some.injEq] at h; subst h
      simp only [Bool.and_eq_true, decide_eq_true_eq] at hb
      refine ⟨by omega, fun w => ?_⟩
      have : 0 ≤ n ∧ n ≤ (c : Int) := ⟨hb.1, by omega⟩
      simp [Instr.sliceBound, asIntOf, this]
  · cases h

/-- An operand that may be missing. -/
inductive OptR (E : Env) (β : Beta) : Option AVal → Option Value → Prop where
  | none : OptR E β none none
  | some {x : AVal} {v : Value} (h : VR E.ρ β x v) : OptR E β (some x) (some v)

theorem boundO_sound {x : Option AVal} {cx : Option Value} {d y k c : Nat} (h : boundO x d y = some k) (hx : OptR E β x cx) (hd : d ≤ y) (hc : y ≤ c) :
    k ≤ y ∧ ((cx = none ∧ k = d) ∨ ∃ v, cx = some v ∧ ∀ code w, (Instr.sliceBound v c code).run P w = .ok k w) := by
  cases hx with
  | none => simp only [boundO, Option.some.injEq] at h; subst h; exact ⟨hd, .inl ⟨rfl, rfl⟩⟩
  | @some x v hx => exact ⟨(bound_sound (P := P) (code := .index) h hx hc).1, .inr ⟨v, rfl, fun code => (bound_sound h hx hc).2⟩⟩

theorem bounds_sound {isSlice : Bool} {len cap c : Nat} {exact : Bool} {lo hi mx : Option AVal} {clo chi cmx : Option Value} {l h m : Nat} {ex : Bool}
    (hb : boundsA len cap exact lo hi mx = some (l, h, m, ex)) (hlo : OptR E β lo clo) (hhi : OptR E β hi chi) (hmx : OptR E β mx cmx) (hlen : len ≤ cap) (hcap : cap ≤ c) (hex : exact = true → c = cap) :
    l ≤ h ∧ h ≤ m ∧ ∃ m', m ≤ m' ∧ m' ≤ c ∧ (ex = true → m' = m) ∧ ∀ w, (Instr.sliceBounds isSlice len c clo chi cmx).run P w = .ok (l, h, m') w := by
  unfold boundsA at hb
  cases hcnd : (mx.isSome && hi.isNone) with
  | true => rw [hcnd] at hb; cases hb
  | false =>
    rw [hcnd, cond_false] at hb
    cases h1 : boundO mx cap cap with
    | none => rw [h1] at hb; cases hb
    | some m0 =>
      rw [h1] at hb; simp only at hb
      cases h2 : boundO hi len m0 with
      | none => rw [h2] at hb; cases hb
      | some h0 =>
        rw [h2] at hb; simp only at hb
        cases h3 : boundO lo 0 h0 with
        | none => rw [h3] at hb; cases hb
        | some l0 =>
          rw [h3] at hb
          simp only [Option.some.injEq, Prod.mk.injEq] at hb
          obtain ⟨rfl, rfl, rfl, rfl⟩ := hb
          obtain ⟨g1, g1'⟩ := boundO_sound (P := P) h1 hmx (Nat.le_refl _) hcap
          rcases g1' with ⟨rfl, rfl⟩ | ⟨vm, rfl, hm⟩
          · -- no third index
            cases hmx
            obtain ⟨g2, g2'⟩ := boundO_sound (P := P) h2 hhi hlen hcap
            obtain ⟨g3, g3'⟩ := boundO_sound (P := P) h3 hlo (Nat.zero_le _) (Nat.le_refl _)
            refine ⟨g3, g2, c, hcap, Nat.le_refl _, fun e => hex (by simpa using e), fun w => ?_⟩
            rcases g2' with ⟨rfl, rfl⟩ | ⟨vh, rfl, hh⟩ <;> rcases g3' with ⟨rfl, rfl⟩ | ⟨vl, rfl, hl⟩ <;> simp [Instr.sliceBounds, *]
          · cases hmx with
            | some hz =>
              cases hhi with
              | none => simp at hcnd
              | @some y vh hy =>
                have g2 : h0 ≤ m0 := (bound_sound (P := P) (code := .index) h2 hy (Nat.le_refl _)).1
                have hh : ∀ code w, (Instr.sliceBound vh m0 code).run P w = .ok h0 w := fun code => (bound_sound h2 hy (Nat.le_refl _)).2
                obtain ⟨g3, g3'⟩ := boundO_sound (P := P) h3 hlo (Nat.zero_le _) (Nat.le_refl _)
                refine ⟨g3, g2, m0, Nat.le_refl _, Nat.le_trans g1 hcap, fun _ => rfl, fun w => ?_⟩
                rcases g3' with ⟨rfl, rfl⟩ | ⟨vl, rfl, hl⟩ <;> simp [Instr.sliceBounds, *]

theorem slice_sound {t : TypeId} {x : AVal} {cx : Value} {lo hi mx : Option AVal} {clo chi cmx : Option Value} {v : AVal} (h : sliceA P t x lo hi mx = some v) (hx : VR E.ρ β x cx)
    (hlo : OptR E β lo clo) (hhi : OptR E β hi chi) (hmx : OptR E β mx cmx) : Says P E β (Instr.sliceAt t cx clo chi cmx) v := by
  unfold sliceA und at h
  split at h
  · rename_i n a hu
    cases hx with | @str _ _ s h1 h2 =>
    cases hmx with
    | some hz => simp at h
    | none =>
      simp only [Option.isSome_none, Bool.false_eq_true, if_false, Option.bind_eq_bind, Option.pure_def] at h
      cases hb : boundsA n n true lo hi none with
      | none => rw [hb] at h; cases h
      | some r =>
        obtain ⟨l, h', m, ex⟩ := r
        rw [hb] at h; simp only [Option.bind_some, Option.some.injEq] at h; subst h
        obtain ⟨g1, g2, m', g3, g4, g5, g6⟩ := bounds_sound (P := P) (isSlice := false) hb hlo hhi .none (Nat.le_refl _) (Nat.le_refl _) (fun _ => rfl)
        have hsz := size_of_data h1
        refine ⟨.string (s.extract l h'), fun w => ?_, .str ?_ (cut_lt _ _ _)⟩
        · simp only [Instr.sliceAt, run_underlying hu, Sem.run_bind, Result.andThen_ok, Instr.slice, hsz]
          simp [g6]
        · rw [Lib.extract_data, h1, decode_cut n a l h' g1 (by omega)]
  · rename_i e hu
    cases hx
    simp only [Option.bind_eq_bind, Option.pure_def] at h
    cases hb : boundsA 0 0 true lo hi mx with
    | none => rw [hb] at h; cases h
    | some r =>
      obtain ⟨l, h', m, ex⟩ := r
      rw [hb] at h; simp only [Option.bind_some] at h
      obtain ⟨g1, g2, m', g3, g4, g5, g6⟩ := bounds_sound (P := P) (isSlice := true) hb hlo hhi hmx (Nat.le_refl _) (Nat.le_refl _) (fun _ => rfl)
      have e1 : l = 0 := by omega
      have e2 : h' = 0 := by omega
      have e3 : m' = 0 := by omega
      subst e1; subst e2; subst e3
      cases hsz : sizeT P e with
      | none => rw [hsz] at h; cases h
      | some k =>
        rw [hsz] at h; simp only [Option.bind_some, Option.some.injEq] at h; subst h
        exact ⟨.slice none 0 0, fun w => by simp [Instr.sliceAt, run_underlying hu, Instr.slice, g6, sizeT_sound hsz], .nilslice⟩
  · rename_i e b off len cap exact size hu
    cases hx with | @slice _ _ _ _ _ c _ L hL hs hl hc he hz =>
    simp only [Option.bind_eq_bind, Option.pure_def] at h
    cases hb : boundsA len cap exact lo hi mx with
    | none => rw [hb] at h; cases h
    | some r =>
      obtain ⟨l, h', m, ex⟩ := r
      rw [hb] at h; simp only [Option.bind_some] at h
      cases hsz : sizeT P e with
      | none => rw [hsz] at h; cases h
      | some k =>
        rw [hsz] at h; simp only [Option.bind_some] at h
        by_cases hk : k = size
        · subst hk
          rw [if_neg (by simp)] at h
          obtain ⟨g1, g2, m', g3, g4, g5, g6⟩ := bounds_sound (P := P) (isSlice := true) hb hlo hhi hmx hl hc he
          by_cases hcnd : (m = l && !ex && decide (l ≠ 0)) = true
          · rw [if_pos (by simpa using hcnd)] at h; cases h
          · rw [if_neg (by simpa using hcnd)] at h
            simp only [Option.some.injEq] at h; subst h
            have hoff : (if m' = l then (⟨L.blk, L.sh + off, none⟩ : Addr) else (⟨L.blk, L.sh + off, none⟩ : Addr).add (l * k)) = ⟨L.blk, L.sh + (if m = l then off else off + l * k), none⟩ := by
              rw [Addr.add_lit]
              by_cases e1 : m' = l
              · have : m = l := by omega
                rw [if_pos e1, if_pos this]
              · rw [if_neg e1]
                by_cases e2 : m = l
                · rw [if_pos e2]
                  cases ex with
                  | true => exact absurd (g5 rfl) (by omega)
                  | false =>
                    have : l = 0 := by
                      simp [e2] at hcnd; exact hcnd
                    subst this; simp
                · rw [if_neg e2, Nat.add_assoc]
            refine ⟨.slice (some ⟨L.blk, L.sh + (if m = l then off else off + l * k), none⟩) (h' - l) (m' - l), fun w => ?_, .slice hL hs (by omega) (by omega) ?_ ?_⟩
            · simp only [Instr.sliceAt, run_underlying hu, Sem.run_bind, Result.andThen_ok, Instr.slice, g6, sizeT_sound hsz, Sem.run_pure]
              congr 2
              by_cases e1 : m' = l
              · rw [if_pos e1] at hoff ⊢; rw [hoff]
              · rw [if_neg e1] at hoff ⊢; rw [Option.map_some, hoff]
            · intro hex; rw [g5 hex]
            · have hm : (m' - l) * k + l * k = m' * k := by rw [← Nat.add_mul]; congr 1; omega
              have hm2 : m' * k ≤ c * k := Nat.mul_le_mul_right _ g4
              by_cases e2 : m = l
              · rw [if_pos e2]
                have : (m' - l) * k ≤ m' * k := Nat.mul_le_mul_right _ (by omega)
                omega
              · rw [if_neg e2]; omega
        · rw [if_pos hk] at h; cases h
  · cases h

theorem fieldAddr_sound {s : TypeId} {x : AVal} {cx : Value} {f : Nat} {v : AVal} (h : fieldAddrA P s x f = some v) (hx : VR E.ρ β x cx) : Says P E β (Instr.fieldAt s cx f) v := by
  unfold fieldAddrA und at h
  split at h
  · rename_i fields b off hu
    cases hx with | @ptr _ _ L hL =>
    split at h
    · rename_i fd hfd
      split at h
      · rename_i k hk
        simp only [Option.some.injEq] at h; subst h
        refine ⟨.pointer (some ⟨L.blk, L.sh + (off + fd.offset), none⟩), fun w => ?_, .ptr hL⟩
        simp [Instr.fieldAt, run_underlying hu, hfd, Instr.sureAddr, fieldPlace, sizeT_sound hk, Addr.add_lit, Nat.add_assoc]
      · cases h
    · cases h
  · cases h

theorem indexAddr_sound {t : TypeId} {x i : AVal} {cx ci : Value} {v : AVal} (h : indexAddrA P t x i = some v) (hx : VR E.ρ β x cx) (hi : VR E.ρ β i ci) : Says P E β (Instr.indexAt t cx ci) v := by
  unfold indexAddrA und at h
  split at h
  · rename_i len e b off k n hu
    cases hx with | @ptr _ _ L hL =>
    cases hi
    split at h
    · rename_i size hsz
      cases hb : (decide (0 ≤ n) && decide (n < (len : Int))) with
      | false => rw [hb] at h; cases h
      | true =>
        rw [hb, cond_true] at h; simp only [Option.some.injEq] at h; subst h
        simp only [Bool.and_eq_true, decide_eq_true_eq] at hb
        refine ⟨.pointer (some ⟨L.blk, L.sh + (off + n.toNat * size), none⟩), fun w => ?_, .ptr hL⟩
        simp [Instr.indexAt, asIntOf, run_underlying hu, Instr.sureAddr, hb.1, hb.2, sizeT_sound hsz, Addr.add_lit, Nat.add_assoc]
    · cases h
  · rename_i e b off len cap ex sz k n hu
    cases hx with | @slice _ _ _ _ _ c _ L hL hs hl hc he hz =>
    cases hi
    split at h
    · rename_i size hsz
      cases hb : (decide (0 ≤ n) && decide (n < (len : Int)) && Nat.beq size sz) with
      | false => rw [hb] at h; cases h
      | true =>
        rw [hb, cond_true] at h; simp only [Option.some.injEq] at h; subst h
        simp only [Bool.and_eq_true, decide_eq_true_eq] at hb
        refine ⟨.pointer (some ⟨L.blk, L.sh + (off + n.toNat * size), none⟩), fun w => ?_, .ptr hL⟩
        simp [Instr.indexAt, asIntOf, run_underlying hu, hb.1.1, hb.1.2, sizeT_sound hsz, Addr.add_lit, Nat.add_assoc]
    · cases h
  · cases h

theorem index_sound {t : TypeId} {x i : AVal} {cx ci : Value} {v : AVal} (h : indexA P t x i = some v) (hx : VR E.ρ β x cx) (hi : VR E.ρ β i ci) : Says P E β (Instr.index t cx ci) v := by
  unfold indexA und at h
  split at h
  · rename_i len e cs k n hu
    cases hx with | @agg _ vs hr h1 =>
    cases hi
    split at h
    · rename_i size hsz
      cases hb : (decide (0 ≤ n) && decide (n < (len : Int))) with
      | false => rw [hb] at h; cases h
      | true =>
        rw [hb, cond_true] at h
        simp only [Bool.and_eq_true, decide_eq_true_eq] at hb
        obtain ⟨cv, hcv, hv⟩ := partA_sound h hr h1
        exact ⟨cv, fun w => by simp [Instr.index, asIntOf, run_underlying hu, hb.1, hb.2, sizeT_sound hsz, hcv], hv⟩
    · cases h
  · rename_i len a k n hu
    cases hx with | @str _ _ s h1 h2 =>
    cases hi
    cases hb : (decide (0 ≤ n) && decide (n < (len : Int))) with
    | false => rw [hb] at h; cases h
    | true =>
      rw [hb, cond_true] at h; simp only [Option.some.injEq] at h; subst h
      simp only [Bool.and_eq_true, decide_eq_true_eq] at hb
      have hlt : n.toNat < len := by omega
      have hg : s[n.toNat]? = some (UInt8.ofNat (byteAt a n.toNat)) := by
        have h3 := decode_get len a n.toNat hlt
        rw [← h1] at h3
        have hsz := size_of_data h1
        rw [getElem?_pos s n.toNat (by omega)]
        rw [Array.getElem?_toList] at h3
        rw [getElem?_pos s.data n.toNat (by show n.toNat < s.size; omega)] at h3
        exact h3
      refine ⟨.int .u8 (Int.ofNat (byteAt a n.toNat)), fun w => ?_, .int _ _⟩
      have hb8 : (UInt8.ofNat (byteAt a n.toNat)).toNat = byteAt a n.toNat := by
        rw [UInt8.toNat_ofNat']; exact Nat.mod_eq_of_lt (Nat.mod_lt _ (by omega))
      simp only [Instr.index, asIntOf, run_underlying hu, Sem.run_bind, Sem.run_pure, Result.andThen_ok, if_pos hb.1, hg, hb8]
      rfl
  · cases h

theorem assert_sound {x : AVal} {cx : Value} {xt asserted : TypeId} {ok : Bool} {v : AVal} (h : assertA P x asserted ok = some v) (hx : VR E.ρ β x cx) : Says P E β (Instr.typeAssert cx xt asserted ok) v := by
  have hfail : ∀ {v : AVal} {s d : Option TypeId} {m : String}, (if ok = true then (zeroT P asserted).map fun z => AVal.tuple [z, .bool false] else none) = some v →
      Says P E β (if ok = true then do Pure.pure (.tuple #[← zeroValue asserted, .bool false]) else runtimePanic (.typeAssertion s d asserted m)) v := by
    intro v s d m h
    cases ok with
    | false => cases h
    | true =>
      rw [if_pos rfl] at h
      cases hz : zeroT P asserted with
      | none => rw [hz] at h; cases h
      | some z =>
        rw [hz] at h; simp only [Option.map_some, Option.some.injEq] at h; subst h
        obtain ⟨cz, _, hr, hv⟩ := zeroT_sound (E := E) (β := β) hz
        exact ⟨.tuple #[cz, .bool false], fun w => by simp [hr], .tuple (.cons hv (.cons (.bool _) .nil))⟩
  have hhold : ∀ {y : AVal} {cy : Value}, VR E.ρ β y cy → Says P E β (Pure.pure (if ok = true then .tuple #[cy, .bool true] else cy)) (if ok = true then .tuple [y, .bool true] else y) := by
    intro y cy hy
    cases ok with
    | false => exact Says.pure hy
    | true => exact Says.pure (.tuple (.cons hy (.cons (.bool _) .nil)))
  unfold assertA und at h
  simp only at h
  split at h
  · rename_i ms hu; cases hx
    obtain ⟨cv, hr, hv⟩ := hfail (s := none) (d := none) (m := "") h
    exact ⟨cv, fun w => by have := hr w; simp only [Instr.typeAssert, run_underlying hu, Sem.run_bind, Result.andThen_ok]; exact this, hv⟩
  · rename_i want t y hu; cases hx
    rename_i cy hy
    split at h
    · rename_i i hi
      split at h
      · rename_i hm
        simp only [Option.some.injEq] at h; subst h
        obtain ⟨cv, hr, hv⟩ := hhold (VR.iface (t := t) hy)
        exact ⟨cv, fun w => by have := hr w; simp only [Instr.typeAssert, run_underlying hu, Sem.run_bind, Result.andThen_ok, typeInfo, run_program, hi, Sem.run_pure, hm]; exact this, hv⟩
      · rename_i m hm
        obtain ⟨cv, hr, hv⟩ := hfail (s := none) (d := some t) (m := m) h
        exact ⟨cv, fun w => by have := hr w; simp only [Instr.typeAssert, run_underlying hu, Sem.run_bind, Result.andThen_ok, typeInfo, run_program, hi, Sem.run_pure, hm]; exact this, hv⟩
    · cases h
  · rename_i td hnot hu; cases hx
    obtain ⟨cv, hr, hv⟩ := hfail (s := some xt) (d := none) (m := "") h
    exact ⟨cv, fun w => by
      have := hr w
      simp only [Instr.typeAssert, run_underlying hu, Sem.run_bind, Result.andThen_ok]
      cases td <;> first | exact this | exact absurd rfl (hnot _), hv⟩
  · rename_i td t y hnot hu; cases hx
    rename_i cy hy
    cases ht : Nat.beq t asserted with
    | true =>
      rw [ht, cond_true] at h; simp only [Option.some.injEq] at h; subst h
      have := Nat.eq_of_beq_eq_true ht; subst this
      obtain ⟨cv, hr, hv⟩ := hhold hy
      exact ⟨cv, fun w => by
        have := hr w
        simp only [Instr.typeAssert, run_underlying hu, Sem.run_bind, Result.andThen_ok]
        cases td <;> first | (simp only [if_true]; exact this) | exact absurd rfl (hnot _), hv⟩
    | false =>
      rw [ht, cond_false] at h
      have hne : t ≠ asserted := fun e => by subst e; rw [Nat.beq_refl] at ht; cases ht
      obtain ⟨cv, hr, hv⟩ := hfail (s := some xt) (d := some t) (m := "") h
      exact ⟨cv, fun w => by
        have := hr w
        simp only [Instr.typeAssert, run_underlying hu, Sem.run_bind, Result.andThen_ok]
        cases td <;> first | (simp only [if_neg hne]; exact this) | exact absurd rfl (hnot _), hv⟩
  · cases h
end
end Go.Ae
