/- Functions without a body that the model carries out by itself. -/
import Derived.Test.YteginejafomfmaaGreatDoorAeEff4
import Derived.Laws.Externs
import Derived.Lib.Bytealg
import Derived.Lib.MakeNoZero
import Derived.KernelRfl
set_option linter.unusedSimpArgs false
set_option linter.unusedVariables false
set_option maxHeartbeats 1000000
namespace Go.Ae
open Go

section
variable {P : Program} {E : Env} {β : Beta} {h : Hp} {w : World}

theorem next_empty : Extern.allNextRows.lookup "" = none := by kernel_rfl
theorem next_indexByte : Extern.allNextRows.lookup "internal/bytealg.IndexByteString" = none := by kernel_rfl
theorem next_count : Extern.allNextRows.lookup "internal/bytealg.CountString" = none := by kernel_rfl
theorem next_noEscape : Extern.allNextRows.lookup "internal/abi.NoEscape" = none := by kernel_rfl
theorem next_makeNoZero : Extern.allNextRows.lookup "internal/bytealg.MakeNoZero" = none := by kernel_rfl
theorem gen_indexByte : Extern.allGenericRows.lookup "internal/bytealg.IndexByteString" = none := by kernel_rfl
theorem gen_count : Extern.allGenericRows.lookup "internal/bytealg.CountString" = none := by kernel_rfl
theorem gen_noEscape : Extern.allGenericRows.lookup "internal/abi.NoEscape" = none := by kernel_rfl
theorem gen_makeNoZero : Extern.allGenericRows.lookup "internal/bytealg.MakeNoZero" = none := by kernel_rfl
theorem typ_indexByte : Extern.allTypedRows.lookup "internal/bytealg.IndexByteString" = none := by kernel_rfl
theorem typ_count : Extern.allTypedRows.lookup "internal/bytealg.CountString" = none := by kernel_rfl
theorem typ_noEscape : Extern.allTypedRows.lookup "internal/abi.NoEscape" = none := by kernel_rfl
theorem typ_makeNoZero : Extern.allTypedRows.lookup "internal/bytealg.MakeNoZero" = some Extern.BytealgMakeNoZero.makeNoZero := by kernel_rfl
theorem row_indexByte : Extern.allRows.lookup "internal/bytealg.IndexByteString" = some Extern.BytealgIndexByte.indexByte := by kernel_rfl
theorem row_count : Extern.allRows.lookup "internal/bytealg.CountString" = some Extern.BytealgCount.count := by kernel_rfl
theorem row_noEscape : Extern.allRows.lookup "internal/abi.NoEscape" = some Extern.AbiNoEscape.same := by kernel_rfl

theorem findB_sound {s : ByteArray} {n a : Nat} (hs : s.data.toList = decode n a) (ha : a < 256 ^ n) {c : Nat} (hc : c < 256) : ∀ (k i : Nat), i + k = n →
    findB a c k i = match ((List.range' i k).find? fun i => s[i]! == (UInt8.ofNat c)) with | some i => (i : Int) | none => -1
  | 0, i, h => by simp [findB]
  | k + 1, i, h => by
    have hget : s[i]! = UInt8.ofNat (byteAt a i) := by
      have h3 := decode_get n a i (by omega)
      rw [← hs, Array.getElem?_toList] at h3
      have hsz : s.data.size = n := size_of_data hs
      have hi : i < s.data.size := by omega
      rw [getElem!_pos s i (show i < s.size from hi)]
      show s.data[i] = _
      rw [Array.getElem?_eq_getElem hi] at h3
      simpa using h3
    have hbt : byteAt a i < 256 := Nat.mod_lt _ (by omega)
    have heq : (s[i]! == UInt8.ofNat c) = Nat.beq (byteAt a i) c := by
      rw [hget, Bool.eq_iff_iff]
      simp only [beq_iff_eq]
      constructor
      · intro e
        have := congrArg UInt8.toNat e
        simp only [UInt8.toNat_ofNat'] at this
        rw [Nat.mod_eq_of_lt hbt, Nat.mod_eq_of_lt hc] at this
        rw [this]; exact Nat.beq_refl _
      · intro e; rw [Nat.eq_of_beq_eq_true e]
    simp only [findB, List.range'_succ, List.find?_cons, heq]
    cases Nat.beq (byteAt a i) c with
    | true => rfl
    | false =>
      simp only [cond_false]
      exact findB_sound hs ha hc k (i + 1) (by omega)

theorem countB_sound {c : Nat} (hc : c < 256) : ∀ (n a acc : Nat), (decode n a).foldl (fun n x => if x == UInt8.ofNat c then n + 1 else n) acc = countB a c n acc
  | 0, a, acc => rfl
  | n + 1, a, acc => by
    have hbt : a % 256 < 256 := Nat.mod_lt _ (by omega)
    have heq : (UInt8.ofNat (a % 256) == UInt8.ofNat c) = Nat.beq (a % 256) c := by
      rw [Bool.eq_iff_iff]
      simp only [beq_iff_eq]
      constructor
      · intro e
        have := congrArg UInt8.toNat e
        simp only [UInt8.toNat_ofNat'] at this
        rw [Nat.mod_eq_of_lt hbt, Nat.mod_eq_of_lt hc] at this
        rw [this]; exact Nat.beq_refl _
      · intro e; rw [Nat.eq_of_beq_eq_true e]
    simp only [decode, List.foldl_cons, countB, heq]
    rw [countB_sound hc n]
    cases Nat.beq (a % 256) c <;> rfl

theorem count_foldlN (c : UInt8) : ∀ (l : List UInt8) (n : Nat), l.foldl (fun n x => if x == c then n + 1 else n) n = n + Lib.countByte l c
  | [], n => by simp [Lib.countByte]
  | b :: l, n => by
    rw [List.foldl_cons, count_foldlN c l]
    unfold Lib.countByte
    rw [List.count_cons]
    split <;> simp_all <;> omega

theorem digits_size : ∀ (n t : Nat) (acc : Array Value), (Extern.BytealgMakeNoZero.digits n t acc).size = acc.size + n
  | 0, t, acc => rfl
  | n + 1, t, acc => by simp only [Extern.BytealgMakeNoZero.digits]; rw [digits_size n]; simp; omega

/-- A call that the model answers by itself. -/
theorem ext_sound (r : Rel E β h w) {f : FuncId} {fn : Func} (hf : P.funcs[f]? = some fn) (hb : fn.body = none) {k : ExtK} (hk : extOf fn = some k) {args : List AVal} {cargs : List Value} {v : AVal} {h' : Hp}
    (he : evalExt P k fn args h = some (v, h')) (hr : VRs E.ρ β args cargs) : Does P E β h w (callFunc f cargs.toArray) v h' := by
  have horg : fn.origin = "" := by
    unfold extOf at hk
    cases ho : (fn.origin == "") with
    | false => rw [ho] at hk; simp at hk
    | true => exact eq_of_beq ho
  have hname : (k matches .indexByte) = true ∧ fn.name = "internal/bytealg.IndexByteString" ∨ (k matches .count) = true ∧ fn.name = "internal/bytealg.CountString" ∨
      (k matches .noEscape) = true ∧ fn.name = "internal/abi.NoEscape" ∨ (k matches .makeNoZero) = true ∧ fn.name = "internal/bytealg.MakeNoZero" := by
    unfold extOf at hk
    rw [horg] at hk
    simp only [beq_self_eq_true, Bool.not_true, cond_false] at hk
    cases h1 : (fn.name == "internal/bytealg.IndexByteString") with
    | true => rw [h1] at hk; simp only [cond_true, Option.some.injEq] at hk; subst hk; exact .inl ⟨rfl, eq_of_beq h1⟩
    | false =>
      rw [h1] at hk; simp only [cond_false] at hk
      cases h2 : (fn.name == "internal/bytealg.CountString") with
      | true => rw [h2] at hk; simp only [cond_true, Option.some.injEq] at hk; subst hk; exact .inr (.inl ⟨rfl, eq_of_beq h2⟩)
      | false =>
        rw [h2] at hk; simp only [cond_false] at hk
        cases h3 : (fn.name == "internal/abi.NoEscape") with
        | true => rw [h3] at hk; simp only [cond_true, Option.some.injEq] at hk; subst hk; exact .inr (.inr (.inl ⟨rfl, eq_of_beq h3⟩))
        | false =>
          rw [h3] at hk; simp only [cond_false] at hk
          cases h4 : (fn.name == "internal/bytealg.MakeNoZero") with
          | true => rw [h4] at hk; simp only [cond_true, Option.some.injEq] at hk; subst hk; exact .inr (.inr (.inr ⟨rfl, eq_of_beq h4⟩))
          | false => rw [h4] at hk; simp at hk
  have hbn : fn.body.isNone = true := by rw [hb]; rfl
  have fin : ∀ {e : Array Value → Sem Value} {cv : Value} {w' : World}, (callFunc f cargs.toArray).run P w = ((e cargs.toArray).run P w).andThen (fun v w' => .ok (.value v) w') → (e cargs.toArray).run P w = .ok cv w' →
      ∀ β', VR E.ρ β' v cv → Rel E β' h' w' → Frm β h w β' h' w' → Does P E β h w (callFunc f cargs.toArray) v h' := fun h1 h2 β' h3 h4 h5 =>
    ⟨_, _, β', _, by rw [h1, h2]; rfl, .inl rfl, h3, h4, h5⟩
  cases k with
  | indexByte =>
    rcases hname with ⟨_, hn⟩ | ⟨hx, _⟩ | ⟨hx, _⟩ | ⟨hx, _⟩
    case inr.inl => cases hx
    case inr.inr.inl => cases hx
    case inr.inr.inr => cases hx
    have hcall := run_callFunc_extern (P := P) hf (by rw [hn]; rfl) hbn (e := Extern.BytealgIndexByte.indexByte) (by simp [Extern.findNext, hn, horg, next_empty, next_indexByte]) (by simp [Extern.find, hn, gen_indexByte, typ_indexByte, row_indexByte]) cargs.toArray w
    unfold evalExt at he
    split at he
    case h_1 n a c _ _ _ =>
      cases hr with | @cons _ _ cx cl hx hr =>
      cases hr with | @cons _ _ cy cl hy hr =>
      cases hr; cases hy
      cases hx with | @str _ _ s h1 h2 =>
      cases hlt : Nat.blt c 256 with
      | false => rw [hlt] at he; cases he
      | true =>
        rw [hlt, cond_true] at he; simp only [Option.some.injEq, Prod.mk.injEq] at he
        obtain ⟨rfl, rfl⟩ := he
        have hc : c < 256 := by simpa [Nat.blt_eq] using hlt
        have hrun := run_indexByte_string (P := P) s (Int.ofNat c) w
        refine fin hcall hrun β ?_ r (.refl _ _ _)
        have hfirst : firstIdx s (Int.ofNat c).toNat.toUInt8 = findB a c n 0 := by
          rw [findB_sound h1 h2 hc n 0 (by omega), ← List.range_eq_range']
          have hsz := size_of_data h1
          unfold firstIdx
          rw [hsz]
          rfl
        rw [hfirst]
        exact .int _ _
    all_goals first | (rename_i hx _ _; cases hx; done) | (cases he; done)
  | count =>
    rcases hname with ⟨hx, _⟩ | ⟨_, hn⟩ | ⟨hx, _⟩ | ⟨hx, _⟩
    case inl => cases hx
    case inr.inr.inl => cases hx
    case inr.inr.inr => cases hx
    have hcall := run_callFunc_extern (P := P) hf (by rw [hn]; rfl) hbn (e := Extern.BytealgCount.count) (by simp [Extern.findNext, hn, horg, next_empty, next_count]) (by simp [Extern.find, hn, gen_count, typ_count, row_count]) cargs.toArray w
    unfold evalExt at he
    split at he
    case h_2 n a c _ _ _ =>
      cases hr with | @cons _ _ cx cl hx hr =>
      cases hr with | @cons _ _ cy cl hy hr =>
      cases hr; cases hy
      cases hx with | @str _ _ s h1 h2 =>
      cases hlt : Nat.blt c 256 with
      | false => rw [hlt] at he; cases he
      | true =>
        rw [hlt, cond_true] at he; simp only [Option.some.injEq, Prod.mk.injEq] at he
        obtain ⟨rfl, rfl⟩ := he
        have hc : c < 256 := by simpa [Nat.blt_eq] using hlt
        have hrun := Lib.run_countString (P := P) s (Int.ofNat c) w
        refine fin hcall hrun β ?_ r (.refl _ _ _)
        have hfirst : Lib.countByte s.data.toList (Int.ofNat c).toNat.toUInt8 = countB a c n 0 := by
          rw [h1, ← countB_sound hc n a 0, count_foldlN, Nat.zero_add]
          rfl
        rw [hfirst]
        exact .int _ _
    all_goals first | (rename_i hx _ _; cases hx; done) | (cases he; done)
  | noEscape =>
    rcases hname with ⟨hx, _⟩ | ⟨hx, _⟩ | ⟨_, hn⟩ | ⟨hx, _⟩
    case inl => cases hx
    case inr.inl => cases hx
    case inr.inr.inr => cases hx
    have hcall := run_callFunc_extern (P := P) hf (by rw [hn]; rfl) hbn (e := Extern.AbiNoEscape.same) (by simp [Extern.findNext, hn, horg, next_empty, next_noEscape]) (by simp [Extern.find, hn, gen_noEscape, typ_noEscape, row_noEscape]) cargs.toArray w
    unfold evalExt at he
    split at he
    case h_3 x _ _ _ =>
      cases hr with | @cons _ _ cx cl hx hr =>
      cases hr
      simp only [Option.some.injEq, Prod.mk.injEq] at he
      obtain ⟨rfl, rfl⟩ := he
      exact fin hcall (cv := cx) (w' := w) rfl β hx r (.refl _ _ _)
    all_goals first | (rename_i hx _ _; cases hx; done) | (cases he; done)
  | makeNoZero =>
    rcases hname with ⟨hx, _⟩ | ⟨hx, _⟩ | ⟨hx, _⟩ | ⟨_, hn⟩
    case inl => cases hx
    case inr.inl => cases hx
    case inr.inr.inl => cases hx
    have hcall := run_callFunc_extern (P := P) hf (by rw [hn]; rfl) hbn (e := Extern.BytealgMakeNoZero.makeNoZero fn.params fn.resultTypes) (by simp [Extern.findNext, hn, horg, next_empty, next_makeNoZero]) (by simp [Extern.find, hn, gen_makeNoZero, typ_makeNoZero]) cargs.toArray w
    unfold evalExt at he
    split at he
    case h_4 n _ _ _ =>
      cases hr with | @cons _ _ cx cl hx hr =>
      cases hr; cases hx
      split at he
      · rename_i e hel
        split at hel
        · rename_i t ht
          cases hc : decide (0 ≤ n) && decide (n ≤ 281474976710656) with
          | false => rw [hc] at he; cases he
          | true =>
            rw [hc, cond_true] at he; simp only [Option.some.injEq, Prod.mk.injEq] at he
            obtain ⟨rfl, rfl⟩ := he
            simp only [Bool.and_eq_true, decide_eq_true_eq] at hc
            obtain ⟨m, rfl⟩ := Int.eq_ofNat_of_zero_le hc.1
            obtain ⟨cs, hrun, hle, _⟩ := Lib.run_makeNoZero (P := P) w fn.params t e (elemSlice_some hel) m (by omega)
            have hrt : fn.resultTypes = #[t] := by rw [← Array.toArray_toList (xs := fn.resultTypes), ht]
            rw [hrt] at hcall
            obtain ⟨h1, h2⟩ := new_rel r (w' := w.drew.drew.alloc (.cells cs e)) (x := .cells e 0 0 .e) (o := .cells cs e) (sz := cs.size) rfl rfl rfl rfl
              ⟨rfl, rfl, rfl, fun i v hi => (by rw [T.get_e] at hi; cases hi), .inl rfl⟩
            refine fin hcall hrun _ ?_ h1 h2
            exact .slice (upd_same _ _ _) (by omega) (Nat.le_refl _) (by simpa using hle) (fun h => by cases h) (by simp)
        · cases hel
      · cases he
    all_goals first | (rename_i hx _ _; cases hx; done) | (cases he; done)
end
end Go.Ae
