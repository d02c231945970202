/- Operations that look at no memory, one by one. -/
import Derived.Test.YteginejafomfmaaGreatDoorAePure
import Derived.Laws.Strings
set_option linter.unusedSimpArgs false
set_option linter.unusedVariables false
set_option maxHeartbeats 1000000
namespace Go.Ae
open Go

section
variable {P : Program} {E : Env} {β : Beta}

/-- A piece of the model that answers the same in every world, and what it answers. -/
def Says (P : Program) (E : Env) (β : Beta) (s : Sem Value) (v : AVal) : Prop := ∃ cv, (∀ w, s.run P w = .ok cv w) ∧ VR E.ρ β v cv
theorem Says.pure {v : AVal} {cv : Value} (h : VR E.ρ β v cv) : Says P E β (Pure.pure cv) v := ⟨cv, fun w => rfl, h⟩

theorem cmp_sound {op : BinOp} {x y : Int} {v : AVal} (h : cmpA op x y = some v) : Says P E β (Op.intCmp op x y) v := by
  cases op <;> simp only [cmpA, Option.some.injEq] at h <;> first | (cases h; done) | (subst h; exact Says.pure (.bool _))

theorem wrap_toNat_small (k : IntKind) (r : Nat) (h : (r : Int) ≤ k.max) : k.wrap r = r := by
  unfold IntKind.wrap
  unfold IntKind.max at h
  cases k <;> simp [IntKind.bits, IntKind.signed] at h ⊢ <;> omega

theorem str_beq {n m a b : Nat} {s t : ByteArray} (hs : s.data.toList = decode n a) (ha : a < 256 ^ n) (ht : t.data.toList = decode m b) (hb : b < 256 ^ m) :
    (s.toList == t.toList) = (Nat.beq n m && Nat.beq a b) := by
  rw [ByteArray.toList_eq, ByteArray.toList_eq, hs, ht]
  rw [Bool.eq_iff_iff]
  simp only [beq_iff_eq, Bool.and_eq_true]
  constructor
  · intro e
    have hl : n = m := by have := congrArg List.length e; simpa using this
    subst hl
    exact ⟨Nat.beq_refl _, by rw [decode_inj ha hb e]; exact Nat.beq_refl _⟩
  · rintro ⟨h1, h2⟩
    rw [Nat.eq_of_beq_eq_true h1, Nat.eq_of_beq_eq_true h2]

theorem less_sound : ∀ (n m a b : Nat), Op.bytesLess (decode n a) (decode m b) = lessL n m a b
  | 0, 0, a, b => rfl
  | n + 1, 0, a, b => rfl
  | 0, m + 1, a, b => rfl
  | n + 1, m + 1, a, b => by
    simp only [decode, Op.bytesLess, lessL]
    rw [less_sound n m]
    have h1 : ∀ x y : Nat, x < 256 → y < 256 → (decide (UInt8.ofNat x < UInt8.ofNat y)) = Nat.blt x y := by
      intro x y hx hy
      rw [Bool.eq_iff_iff]
      simp only [decide_eq_true_eq, UInt8.lt_iff_toNat_lt, UInt8.toNat_ofNat', Nat.blt_eq]
      rw [Nat.mod_eq_of_lt hx, Nat.mod_eq_of_lt hy]
    have h2 : ∀ x y : Nat, x < 256 → y < 256 → (UInt8.ofNat x == UInt8.ofNat y) = Nat.beq x y := by
      intro x y hx hy
      rw [Bool.eq_iff_iff]
      simp only [beq_iff_eq]
      constructor
      · intro e
        have := congrArg UInt8.toNat e
        simp only [UInt8.toNat_ofNat'] at this
        rw [Nat.mod_eq_of_lt hx, Nat.mod_eq_of_lt hy] at this
        rw [this]; exact Nat.beq_refl _
      · intro e
        rw [Nat.eq_of_beq_eq_true e]
    have ha : a % 256 < 256 := Nat.mod_lt _ (by omega)
    have hb : b % 256 < 256 := Nat.mod_lt _ (by omega)
    rw [h1 _ _ ha hb, h2 _ _ ha hb]

theorem size_of_data {s : ByteArray} {n a : Nat} (hs : s.data.toList = decode n a) : s.size = n := by
  have : s.size = s.data.toList.length := by rw [Array.length_toList]; rfl
  rw [this, hs, decode_length]

theorem bits_and (k : IntKind) (a b : Nat) (ha : (a : Int) ≤ k.max) : True := trivial

/-- The eqGuard passes. -/
theorem guard_sound {op : BinOp} {t : TypeId} {ox oy : Operand} {x y : AVal} {cx cy : Value} (hx : VR E.ρ β x cx) (hy : VR E.ρ β y cy)
    (hg : guardA P (isConstO ox || isConstO oy) t x y = true) (w : World) : (eqGuard op t ox oy cx cy).run P w = .ok () w := by
  by_cases hop : (op matches .eql | .neq) = true
  case neg => cases op <;> first | rfl | (exact absurd rfl hop)
  cases hx <;> first
    | (cases op <;> rfl)
    | skip
  · -- nil interface
    cases hy <;> first
      | (cases op <;> rfl)
      | skip
    · simp only [guardA] at hg
      cases ox <;> cases oy <;> simp [isConstO] at hg <;> cases op <;> rfl
    · simp [guardA] at hg
  · cases hy <;> first
      | (cases op <;> rfl)
      | skip
    · simp only [guardA, Bool.not_eq_true'] at hg
      exact run_eqGuard_agg w op t ox oy _ _ hg
    · simp [guardA] at hg
  · simp [guardA] at hg

theorem eqFs_sound {eq : TypeId → AVal → AVal → Option Bool} {d : Nat} {xs ys : List AVal} {vs ws : Array Value} (hx : VRs E.ρ β xs vs.toList) (hx1 : ∀ u ∈ vs.toList, u.oneCell' = true)
    (hy : VRs E.ρ β ys ws.toList) (hy1 : ∀ u ∈ ws.toList, u.oneCell' = true)
    (ih : ∀ t x y cx cy b, eq t x y = some b → VR E.ρ β x cx → VR E.ρ β y cy → ∀ w, (Op.equalIn d t cx cy).run P w = .ok b w) :
    ∀ (fs : List Field) (b : Bool), eqFs P eq xs ys fs = some b → ∀ w, (Op.eqFields d vs ws fs).run P w = .ok b w
  | [], b, h, w => by simp only [eqFs, Option.some.injEq] at h; subst h; rfl
  | f :: fs, b, h, w => by
    simp only [eqFs] at h
    cases hn : (f.name == "_") with
    | true => rw [hn, cond_true] at h; cases h
    | false =>
      rw [hn, cond_false] at h
      have hne : f.name ≠ "_" := by intro e; rw [e] at hn; simp at hn
      cases h1 : partA P f.type xs f.offset with
      | none => rw [h1] at h; cases h
      | some p =>
        cases h2 : partA P f.type ys f.offset with
        | none => rw [h1, h2] at h; cases h
        | some q =>
          rw [h1, h2] at h
          simp only at h
          obtain ⟨cp, hp, hvp⟩ := partA_sound h1 hx hx1
          obtain ⟨cq, hq, hvq⟩ := partA_sound h2 hy hy1
          cases he : eq f.type p q with
          | none => rw [he] at h; cases h
          | some r =>
            have hr := ih f.type p q cp cq r he hvp hvq
            rw [he] at h
            simp only [Op.eqFields]
            rw [if_pos hne]
            simp only [Sem.run_bind, hp, hq, hr, Result.andThen_ok]
            cases r with
            | false => simp only [Option.some.injEq] at h; subst h; rfl
            | true => simpa using eqFs_sound hx hx1 hy hy1 ih fs b h w

theorem eqA_sound : ∀ (d D : Nat) (t : TypeId) (x y : AVal) (cx cy : Value) (b : Bool), d ≤ D → eqA P d t x y = some b → VR E.ρ β x cx → VR E.ρ β y cy →
    ∀ w, (Op.equalIn D t cx cy).run P w = .ok b w
  | 0, D, t, x, y, cx, cy, b, hD, h, hx, hy, w => by simp [eqA] at h
  | d + 1, 0, t, x, y, cx, cy, b, hD, h, hx, hy, w => by omega
  | d + 1, D + 1, t, x, y, cx, cy, b, hD, h, hx, hy, w => by
    unfold eqA und at h
    split at h
    · rename_i hu; cases hx; cases hy; simp only [Option.some.injEq] at h; subst h
      simp [Op.equalIn, run_underlying hu]
    · rename_i hu; cases hx; cases hy
      rename_i k n k' m
      cases hk : (k == k') with
      | false => rw [hk] at h; cases h
      | true =>
        rw [hk, cond_true] at h; simp only [Option.some.injEq] at h; subst h
        have := eq_of_beq hk; subst this
        simp [Op.equalIn, run_underlying hu]
    · rename_i hu; cases hx; cases hy; simp only [Option.some.injEq] at h; subst h
      rename_i s hs ha s' ht hb
      simp only [Op.equalIn, run_underlying hu, Sem.run_bind, Result.andThen_ok, Sem.run_pure, beq_toListBytes, str_beq hs ha ht hb]
    · rename_i hu; cases hx; cases hy; simp only [Option.some.injEq] at h; subst h
      simp [Op.equalIn, run_underlying hu]
    · rename_i hu; cases hx; cases hy; simp only [Option.some.injEq] at h; subst h
      simp [Op.equalIn, run_underlying hu]
    · rename_i hu; cases hx; cases hy; simp only [Option.some.injEq] at h; subst h
      simp [Op.equalIn, run_underlying hu]
    · rename_i e a i b' j hu
      cases hx; cases hy
      rename_i L hL L' hL'
      cases hsz : sizeT P e with
      | none => rw [hsz] at h; cases h
      | some k =>
        cases k with
        | zero => rw [hsz] at h; cases h
        | succ k =>
          rw [hsz] at h
          simp only at h
          cases hab : Nat.beq a b' with
          | false => rw [hab] at h; cases h
          | true =>
            rw [hab, cond_true] at h; simp only [Option.some.injEq] at h; subst h
            have := Nat.eq_of_beq_eq_true hab; subst this
            rw [hL] at hL'; cases hL'
            have : (({ block := L.blk, off := L.sh + i, spot := none } : Addr) == { block := L.blk, off := L.sh + j, spot := none }) = Nat.beq i j := by
              rw [Bool.eq_iff_iff]
              simp only [beq_iff_eq, Addr.mk.injEq, true_and, and_true]
              constructor
              · intro e; have : i = j := by omega
                rw [this]; exact Nat.beq_refl _
              · intro e; rw [Nat.eq_of_beq_eq_true e]
            simp [Op.equalIn, run_underlying hu, sizeT_sound hsz, sameAddr, this]
    · rename_i hu; cases hx; cases hy; simp only [Option.some.injEq] at h; subst h
      simp [Op.equalIn, run_underlying hu]
    · rename_i hu; cases hx; cases hy; simp only [Option.some.injEq] at h; subst h
      simp [Op.equalIn, run_underlying hu]
    · rename_i hu; cases hx; cases hy; simp only [Option.some.injEq] at h; subst h
      simp [Op.equalIn, run_underlying hu]
    · rename_i tx vx ty vy hu
      cases hx; cases hy
      rename_i cx hx cy hy
      cases ht : Nat.beq tx ty with
      | false =>
        rw [ht, cond_false] at h; simp only [Option.some.injEq] at h; subst h
        have : tx ≠ ty := fun e => by subst e; rw [Nat.beq_refl] at ht; cases ht
        simp [Op.equalIn, run_underlying hu, this]
      | true =>
        rw [ht, cond_true] at h
        have := Nat.eq_of_beq_eq_true ht; subst this
        cases hi : P.info? tx with
        | none => rw [hi] at h; cases h
        | some i =>
          rw [hi] at h; simp only at h
          cases hc : i.comparable with
          | false => rw [hc] at h; cases h
          | true =>
            rw [hc, cond_true] at h
            have := eqA_sound d D tx vx vy cx cy b (by omega) h hx hy w
            simp [Op.equalIn, run_underlying hu, typeInfo, hi, hc, this]
    · rename_i fields xs ys hu
      cases hx with | @agg _ vs hxs hx1 =>
      cases hy with | @agg _ ws hys hy1 =>
      cases hst : P.stoodInHeld t with
      | true => rw [hst, cond_true] at h; cases h
      | false =>
        rw [hst, cond_false] at h
        have hf : P.fieldsOf t = fields := by simp [Program.fieldsOf, hu]
        rw [run_equalIn_struct w D t vs ws (by rw [hf]; exact hu) hst, hf]
        exact eqFs_sound hxs hx1 hys hy1 (fun t x y cx cy b he hx hy w => eqA_sound d D t x y cx cy b (by omega) he hx hy w) _ _ h w
    all_goals first
      | (rename_i hu; cases hx; cases hy; simp only [Option.some.injEq] at h; subst h; simp [Op.equalIn, run_underlying hu]; done)
      | (cases h; done)

theorem toNat_ofInt {k : Nat} {x : Int} (h : 0 ≤ x) : (BitVec.ofInt k x).toNat = x.toNat % 2 ^ k := by
  obtain ⟨n, rfl⟩ := Int.eq_ofNat_of_zero_le h
  simp

theorem bits_sound {op : BinOp} {t : TypeId} {ox oy : Operand} {k : IntKind} {a b : Int} {v : AVal} (hop : op = .and ∨ op = .or ∨ op = .xor ∨ op = .andNot) (h : bitsA op k a b = some v)
    (hg : ∀ w, (eqGuard op t ox oy (.int k a) (.int k b)).run P w = .ok () w) : Says P E β (do eqGuard op t ox oy (.int k a) (.int k b); binOp op t (.int k a) (.int k b)) v := by
  unfold bitsA at h
  cases hc : (decide (0 ≤ a) && decide (0 ≤ b)) with
  | false => rw [hc] at h; cases h
  | true =>
    rw [hc, cond_true] at h
    simp only [Bool.and_eq_true, decide_eq_true_eq] at hc
    obtain ⟨ha, hb⟩ := hc
    have e1 := toNat_ofInt (k := k.bits) ha
    have e2 := toNat_ofInt (k := k.bits) hb
    rcases hop with rfl | rfl | rfl | rfl <;> simp only [Option.some.injEq] at h <;> first | (cases h; done) | subst h
    · exact ⟨_, fun w => by simp only [Sem.run_bind, hg, Result.andThen_ok, binOp, if_neg (show ¬ (k ≠ k) by simp), Op.intBits, BitVec.toNat_and, e1, e2, Sem.run_pure]; rfl, .int _ _⟩
    · exact ⟨_, fun w => by simp only [Sem.run_bind, hg, Result.andThen_ok, binOp, if_neg (show ¬ (k ≠ k) by simp), Op.intBits, BitVec.toNat_or, e1, e2, Sem.run_pure]; rfl, .int _ _⟩
    · exact ⟨_, fun w => by simp only [Sem.run_bind, hg, Result.andThen_ok, binOp, if_neg (show ¬ (k ≠ k) by simp), Op.intBits, BitVec.toNat_xor, e1, e2, Sem.run_pure]; rfl, .int _ _⟩

theorem binOp_eql_any {lit : Bool} {t : TypeId} {x y : AVal} {cx cy : Value} (hx : VR E.ρ β x cx) (hy : VR E.ρ β y cy) (h1 : ∀ k a k' b, x = .int k a → y = .int k' b → False) (h2 : ∀ n a m b, x = .str n a → y = .str m b → False)
    (hg : guardA P lit t x y = true) : binOp .eql t cx cy = (do Pure.pure (.bool (← Op.equal t cx cy))) := by
  cases hx <;> first
    | rfl
    | (cases hy <;> first | rfl | exact (h1 _ _ _ _ rfl rfl).elim | exact (h2 _ _ _ _ rfl rfl).elim | (simp [guardA] at hg; done))
    | (simp [guardA] at hg; done)
theorem binOp_neq_any {lit : Bool} {t : TypeId} {x y : AVal} {cx cy : Value} (hx : VR E.ρ β x cx) (hy : VR E.ρ β y cy) (h1 : ∀ k a k' b, x = .int k a → y = .int k' b → False) (h2 : ∀ n a m b, x = .str n a → y = .str m b → False)
    (hg : guardA P lit t x y = true) : binOp .neq t cx cy = (do Pure.pure (.bool (!(← Op.equal t cx cy)))) := by
  cases hx <;> first
    | rfl
    | (cases hy <;> first | rfl | exact (h1 _ _ _ _ rfl rfl).elim | exact (h2 _ _ _ _ rfl rfl).elim | (simp [guardA] at hg; done))
    | (simp [guardA] at hg; done)

theorem data_append (x y : ByteArray) : (x ++ y).data.toList = x.data.toList ++ y.data.toList := by
  rw [ByteArray.data_append, Array.toList_append]

theorem bin_sound {op : BinOp} {t : TypeId} {ox oy : Operand} {x y : AVal} {cx cy : Value} {v : AVal} (h : binA P op (isConstO ox || isConstO oy) t x y = some v) (hx : VR E.ρ β x cx) (hy : VR E.ρ β y cy) :
    Says P E β (do eqGuard op t ox oy cx cy; binOp op t cx cy) v := by
  unfold binA at h
  split at h
  · -- numbers
    cases hx; cases hy
    rename_i k a k' b
    have hg : ∀ w, (eqGuard op t ox oy (.int k a) (.int k' b)).run P w = .ok () w := fun w => by cases op <;> rfl
    split at h
    · cases hb : decide (b < 0) with
      | true => rw [hb] at h; cases h
      | false =>
        rw [hb, cond_false] at h; simp only [Option.some.injEq] at h; subst h
        have hb' : ¬ b < 0 := by simpa using hb
        exact ⟨_, fun w => by simp [hg, binOp, Op.shift, hb'], .int _ _⟩
    · cases hb : decide (b < 0) with
      | true => rw [hb] at h; cases h
      | false =>
        rw [hb, cond_false] at h; simp only [Option.some.injEq] at h; subst h
        have hb' : ¬ b < 0 := by simpa using hb
        exact ⟨_, fun w => by simp [hg, binOp, Op.shift, hb'], .int _ _⟩
    · rename_i h1 h2
      cases hk : (k == k') with
      | false => rw [hk] at h; cases h
      | true =>
        rw [hk, cond_true] at h
        have := eq_of_beq hk; subst this
        split at h
        · simp only [Option.some.injEq] at h; subst h; exact ⟨_, fun w => by simp [hg, binOp, Op.intArith], .int _ _⟩
        · simp only [Option.some.injEq] at h; subst h; exact ⟨_, fun w => by simp [hg, binOp, Op.intArith], .int _ _⟩
        · simp only [Option.some.injEq] at h; subst h; exact ⟨_, fun w => by simp [hg, binOp, Op.intArith], .int _ _⟩
        · cases hb : (b == 0) with
          | true => rw [hb] at h; cases h
          | false =>
            rw [hb, cond_false] at h; simp only [Option.some.injEq] at h; subst h
            have hb' : b ≠ 0 := by simpa using hb
            exact ⟨_, fun w => by simp [hg, binOp, Op.intDiv, hb'], .int _ _⟩
        · cases hb : (b == 0) with
          | true => rw [hb] at h; cases h
          | false =>
            rw [hb, cond_false] at h; simp only [Option.some.injEq] at h; subst h
            have hb' : b ≠ 0 := by simpa using hb
            exact ⟨_, fun w => by simp [hg, binOp, Op.intDiv, hb'], .int _ _⟩
        · exact bits_sound (by rename_i hop; simp) h hg
        · exact bits_sound (by simp) h hg
        · exact bits_sound (by simp) h hg
        · exact bits_sound (by simp) h hg
        · rename_i h3 h4 h5 h6 h7 h8 h9 h10 h11
          obtain ⟨cv, hr, hv⟩ := cmp_sound (P := P) (E := E) (β := β) h
          refine ⟨cv, fun w => ?_, hv⟩
          cases op <;> first
            | (simp [cmpA] at h; done)
            | (simp only [Sem.run_bind, hg, Result.andThen_ok]; rw [← hr w]; simp [binOp])
  · cases hx; cases hy
    rename_i n a m b s hs ha s' ht hb
    have hg : ∀ w, (eqGuard op t ox oy (.string s) (.string s')).run P w = .ok () w := fun w => by cases op <;> rfl
    have e1 := str_beq hs ha ht hb
    have e2 : Op.bytesLess s.toList s'.toList = lessL n m a b := by
      rw [ByteArray.toList_eq, ByteArray.toList_eq, hs, ht, less_sound]
    have hb' : ∀ w, (binOp op t (.string s) (.string s')).run P w = (Op.stringOp op s s').run P w := fun w => by cases op <;> rfl
    cases op <;> simp only [Option.some.injEq] at h <;> first | (cases h; done) | subst h | skip
    · cases hle : Nat.ble (n + m) (2 ^ 62) with
      | false => rw [hle] at h; cases h
      | true =>
        rw [hle, cond_true] at h; simp only [Option.some.injEq] at h; subst h
        have hle' := Nat.le_of_ble_eq_true hle
        have hsz : ¬ (((s.size + s'.size : Nat) : Int) > IntKind.i64.max) := by
          rw [size_of_data hs, size_of_data ht, IntKind.max_i64]; omega
        refine ⟨.string (s ++ s'), fun w => by simp only [Sem.run_bind, hg, Result.andThen_ok, hb', Op.stringOp, if_neg hsz, Sem.run_pure], .str ?_ (append_lt ha hb)⟩
        rw [data_append, hs, ht, decode_append _ _ _ _ ha]
    all_goals exact ⟨_, fun w => by simp only [Sem.run_bind, hg, Result.andThen_ok, hb', Op.stringOp, e1, e2, Sem.run_pure], .bool _⟩
  · rename_i hn1 hn2
    cases hg : guardA P (isConstO ox || isConstO oy) t x y with
    | false => rw [hg] at h; cases h
    | true =>
      rw [hg, cond_true] at h
      have hgs := guard_sound (P := P) (op := op) hx hy hg
      cases op <;> simp only at h <;> first | (cases h; done) | skip
      · cases he : eqA P 20 t x y with
        | none => rw [he] at h; cases h
        | some b =>
          rw [he] at h; simp only [Option.map_some, Option.some.injEq] at h; subst h
          have hr := eqA_sound 20 10000 t x y cx cy b (by omega) he hx hy
          exact ⟨.bool b, fun w => by simp only [Sem.run_bind, hgs, Result.andThen_ok, binOp_eql_any hx hy hn1 hn2 hg, Op.equal, Op.maxDepth, hr, Sem.run_pure], .bool _⟩
      · cases he : eqA P 20 t x y with
        | none => rw [he] at h; cases h
        | some b =>
          rw [he] at h; simp only [Option.map_some, Option.some.injEq] at h; subst h
          have hr := eqA_sound 20 10000 t x y cx cy b (by omega) he hx hy
          exact ⟨.bool !b, fun w => by simp only [Sem.run_bind, hgs, Result.andThen_ok, binOp_neq_any hx hy hn1 hn2 hg, Op.equal, Op.maxDepth, hr, Sem.run_pure], .bool _⟩
end
end Go.Ae
