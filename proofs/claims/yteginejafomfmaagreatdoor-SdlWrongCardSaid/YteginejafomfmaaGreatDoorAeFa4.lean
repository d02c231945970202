/- Operations on numbers and texts, places in rows, calls; then whatever the compiler makes of an operation. No condition. -/
import Derived.Test.YteginejafomfmaaGreatDoorAeFa3
set_option linter.unusedVariables false
set_option linter.unusedSimpArgs false
namespace Go.Ae
open Go
noncomputable section

theorem wrap_i64 {m : Nat} (h : m < 9223372036854775808) : IntKind.i64.wrap (Int.ofNat m) = Int.ofNat m := by
  have e1 : (2 ^ IntKind.i64.bits : Int) = 18446744073709551616 := by decide
  have e2 : (2 ^ (IntKind.i64.bits - 1) : Int) = 9223372036854775808 := by decide
  unfold IntKind.wrap
  simp only [e1, e2]
  have e3 : (Int.ofNat m) % 18446744073709551616 = Int.ofNat m := Int.emod_eq_of_lt (by simp) (by simp; omega)
  rw [e3]
  split
  · rename_i hc
    simp at hc
    omega
  · rfl
theorem ofNat_blt (a b : Nat) : (decide (Int.ofNat a < Int.ofNat b)) = Nat.blt a b := by
  rw [Bool.eq_iff_iff, decide_eq_true_iff, Nat.blt_eq]; simp
theorem ofNat_ble (a b : Nat) : (decide (Int.ofNat a ≤ Int.ofNat b)) = Nat.ble a b := by
  rw [Bool.eq_iff_iff, decide_eq_true_iff, Nat.ble_eq]; simp
theorem ofNat_beq (a b : Nat) : (Int.ofNat a == Int.ofNat b) = Nat.beq a b := by
  rw [Bool.eq_iff_iff]; simp; exact Int.ofNat_inj

section
variable {P : Program} {G : Nat → Option AVal} {H : Hook} {loc n : Nat} {cs : CS} {gs : List Gd} {o : Oper}

theorem kind_bin_int {op : BinOp} {t zt : TypeId} {x y : Operand} {k : IntKind} (ho : o.op = .binOp op t x y zt) (hu : und P t = some (.int k)) : kindOf P o = .pure := by
  unfold kindOf; rw [ho]; cases op <;> simp [hu]
theorem kind_bin_str {op : BinOp} {t zt : TypeId} {x y : Operand} (ho : o.op = .binOp op t x y zt) (hu : und P t = some .string) : kindOf P o = .pure := by
  unfold kindOf; rw [ho]; cases op <;> simp [hu]

theorem jCmp_ok {op : BinOp} {t zt : TypeId} {x y : Operand} {k : IntKind} {fn : Nat → Nat → Bool} {a b : XF n} (ho : o.op = .binOp op t x y zt) (hu : und P t = some (.int k)) (hx : XOk loc n cs gs x a) (hy : XOk loc n cs gs y b)
    (hop : ∀ (lit : Bool) (k : IntKind) (i j : Nat), binA P op lit t (.int k (.ofNat i)) (.int k (.ofNat j)) = some (.bool (fn i j))) : JOk P G H loc n cs gs o (jCmp fn a b (slowS loc n cs gs o)) := by
  intro call hc f fr L h K inv hgs hg
  obtain ⟨p, hp, hae⟩ := hx f fr L inv hgs
  obtain ⟨q, hq, hbe⟩ := hy f fr L inv hgs
  have hrun : (jCmp fn a b (slowS loc n cs gs o)).run ⟨P, G, H, call⟩ fr L h K = ifB (Nat.beq (V.of p).tag (V.of q).tag) (ifB (Nat.ble 10 (V.of p).tag) (K (V.ofB (fn (V.of p).a (V.of q).a)) h) (slowK (slowS loc n cs gs o) ⟨P, G, H, call⟩ fr L h K)) (slowK (slowS loc n cs gs o) ⟨P, G, H, call⟩ fr L h K) := by
    rw [← hae, ← hbe]; rfl
  rw [hrun] at hg ⊢
  cases h1 : Nat.beq (V.of p).tag (V.of q).tag with
  | false => rw [ifB_false h1] at hg; rw [ifB_false rfl]; exact slowK_sound hc inv hgs hg
  | true =>
    rw [ifB_true h1] at hg; rw [ifB_true rfl]
    cases h2 : Nat.ble 10 (V.of p).tag with
    | false => rw [ifB_false h2] at hg; rw [ifB_false rfl]; exact slowK_sound hc inv hgs hg
    | true =>
      rw [ifB_true rfl]
      have e1 := Nat.eq_of_beq_eq_true h1
      have e2 := Nat.le_of_ble_eq_true h2
      obtain ⟨k1, hp1, hk1⟩ := tag_int (x := p) e2
      obtain ⟨k2, hq1, hk2⟩ := tag_int (x := q) (by omega)
      have : k1 = k2 := kcode_inj (by rw [← hk1, ← hk2, e1])
      subst this
      refine ⟨1, .bool (fn (V.of p).a (V.of q).a), h, evalOp_pure (kind_bin_int ho hu) ?_, rfl⟩
      unfold pureOp; rw [ho]
      simp only [hp, hq]
      rw [hp1, hq1, hop]
      rfl
theorem jAdd_ok {t zt : TypeId} {x y : Operand} {k : IntKind} {a b : XF n} (ho : o.op = .binOp .add t x y zt) (hu : und P t = some (.int k)) (hx : XOk loc n cs gs x a) (hy : XOk loc n cs gs y b) : JOk P G H loc n cs gs o (jAdd a b (slowS loc n cs gs o)) := by
  intro call hc f fr L h K inv hgs hg
  obtain ⟨p, hp, hae⟩ := hx f fr L inv hgs
  obtain ⟨q, hq, hbe⟩ := hy f fr L inv hgs
  have hrun : (jAdd a b (slowS loc n cs gs o)).run ⟨P, G, H, call⟩ fr L h K = ifB (Nat.beq (V.of p).tag 13) (ifB (Nat.beq (V.of q).tag 13) (ifB (Nat.blt (Nat.add (V.of p).a (V.of q).a) 9223372036854775808) (K (V.ofI (Nat.add (V.of p).a (V.of q).a)) h) (slowK (slowS loc n cs gs o) ⟨P, G, H, call⟩ fr L h K)) (slowK (slowS loc n cs gs o) ⟨P, G, H, call⟩ fr L h K)) (slowK (slowS loc n cs gs o) ⟨P, G, H, call⟩ fr L h K) := by
    rw [← hae, ← hbe]; rfl
  rw [hrun] at hg ⊢
  cases h1 : Nat.beq (V.of p).tag 13 with
  | false => rw [ifB_false h1] at hg; rw [ifB_false rfl]; exact slowK_sound hc inv hgs hg
  | true => cases h2 : Nat.beq (V.of q).tag 13 with
    | false => rw [ifB_true h1, ifB_false h2] at hg; rw [ifB_true rfl, ifB_false rfl]; exact slowK_sound hc inv hgs hg
    | true => cases h3 : Nat.blt (Nat.add (V.of p).a (V.of q).a) 9223372036854775808 with
      | false => rw [ifB_true h1, ifB_true h2, ifB_false h3] at hg; rw [ifB_true rfl, ifB_true rfl, ifB_false rfl]; exact slowK_sound hc inv hgs hg
      | true =>
        rw [ifB_true rfl, ifB_true rfl, ifB_true rfl]
        have hp1 := tag_i64 (Nat.eq_of_beq_eq_true h1)
        have hq1 := tag_i64 (Nat.eq_of_beq_eq_true h2)
        refine ⟨1, .int .i64 (.ofNat (Nat.add (V.of p).a (V.of q).a)), h, evalOp_pure (kind_bin_int ho hu) ?_, rfl⟩
        unfold pureOp; rw [ho]
        simp only [hp, hq]
        rw [hp1, hq1]
        simp only [binA, beq_self_eq_true, cond_true, fitI]
        have : Int.ofNat (V.of p).a + Int.ofNat (V.of q).a = Int.ofNat (Nat.add (V.of p).a (V.of q).a) := rfl
        rw [this, wrap_i64 (blt_true h3)]
        rfl
theorem jSub_ok {t zt : TypeId} {x y : Operand} {k : IntKind} {a b : XF n} (ho : o.op = .binOp .sub t x y zt) (hu : und P t = some (.int k)) (hx : XOk loc n cs gs x a) (hy : XOk loc n cs gs y b) : JOk P G H loc n cs gs o (jSub a b (slowS loc n cs gs o)) := by
  intro call hc f fr L h K inv hgs hg
  obtain ⟨p, hp, hae⟩ := hx f fr L inv hgs
  obtain ⟨q, hq, hbe⟩ := hy f fr L inv hgs
  have hrun : (jSub a b (slowS loc n cs gs o)).run ⟨P, G, H, call⟩ fr L h K = ifB (Nat.beq (V.of p).tag 13) (ifB (Nat.beq (V.of q).tag 13) (ifB (Nat.ble (V.of q).a (V.of p).a) (ifB (Nat.blt (V.of p).a 9223372036854775808) (K (V.ofI (Nat.sub (V.of p).a (V.of q).a)) h) (slowK (slowS loc n cs gs o) ⟨P, G, H, call⟩ fr L h K)) (slowK (slowS loc n cs gs o) ⟨P, G, H, call⟩ fr L h K)) (slowK (slowS loc n cs gs o) ⟨P, G, H, call⟩ fr L h K)) (slowK (slowS loc n cs gs o) ⟨P, G, H, call⟩ fr L h K) := by
    rw [← hae, ← hbe]; rfl
  rw [hrun] at hg ⊢
  cases h1 : Nat.beq (V.of p).tag 13 with
  | false => rw [ifB_false h1] at hg; rw [ifB_false rfl]; exact slowK_sound hc inv hgs hg
  | true => cases h2 : Nat.beq (V.of q).tag 13 with
    | false => rw [ifB_true h1, ifB_false h2] at hg; rw [ifB_true rfl, ifB_false rfl]; exact slowK_sound hc inv hgs hg
    | true => cases h3 : Nat.ble (V.of q).a (V.of p).a with
      | false => rw [ifB_true h1, ifB_true h2, ifB_false h3] at hg; rw [ifB_true rfl, ifB_true rfl, ifB_false rfl]; exact slowK_sound hc inv hgs hg
      | true => cases h4 : Nat.blt (V.of p).a 9223372036854775808 with
        | false => rw [ifB_true h1, ifB_true h2, ifB_true h3, ifB_false h4] at hg; rw [ifB_true rfl, ifB_true rfl, ifB_true rfl, ifB_false rfl]; exact slowK_sound hc inv hgs hg
        | true =>
          rw [ifB_true rfl, ifB_true rfl, ifB_true rfl, ifB_true rfl]
          have hp1 := tag_i64 (Nat.eq_of_beq_eq_true h1)
          have hq1 := tag_i64 (Nat.eq_of_beq_eq_true h2)
          have hle := Nat.le_of_ble_eq_true h3
          have hlt := blt_true h4
          refine ⟨1, .int .i64 (.ofNat (Nat.sub (V.of p).a (V.of q).a)), h, evalOp_pure (kind_bin_int ho hu) ?_, rfl⟩
          unfold pureOp; rw [ho]
          simp only [hp, hq]
          rw [hp1, hq1]
          simp only [binA, beq_self_eq_true, cond_true, fitI]
          have : Int.ofNat (V.of p).a - Int.ofNat (V.of q).a = Int.ofNat (Nat.sub (V.of p).a (V.of q).a) := by
            show _ = Int.ofNat ((V.of p).a - (V.of q).a)
            simp only [Int.ofNat_eq_natCast]; omega
          rw [this, wrap_i64 (m := Nat.sub (V.of p).a (V.of q).a) (Nat.lt_of_le_of_lt (Nat.sub_le _ _) hlt)]
          rfl
theorem jSeq_ok {op : BinOp} {t zt : TypeId} {x y : Operand} {neg : Bool} {a b : XF n} (ho : o.op = .binOp op t x y zt) (hop : op = if neg then .neq else .eql) (hu : und P t = some .string) (hx : XOk loc n cs gs x a) (hy : XOk loc n cs gs y b) :
    JOk P G H loc n cs gs o (jSeq neg a b (slowS loc n cs gs o)) := by
  intro call hc f fr L h K inv hgs hg
  obtain ⟨p, hp, hae⟩ := hx f fr L inv hgs
  obtain ⟨q, hq, hbe⟩ := hy f fr L inv hgs
  have hrun : (jSeq neg a b (slowS loc n cs gs o)).run ⟨P, G, H, call⟩ fr L h K = ifB (Nat.beq (V.of p).tag 4) (ifB (Nat.beq (V.of q).tag 4)
      (Bool.rec (K (V.ofB neg) h) (K (V.ofB (Bool.rec neg (Bool.rec true false neg) (Nat.beq (V.of p).b (V.of q).b))) h) (Nat.beq (V.of p).a (V.of q).a)) (slowK (slowS loc n cs gs o) ⟨P, G, H, call⟩ fr L h K)) (slowK (slowS loc n cs gs o) ⟨P, G, H, call⟩ fr L h K) := by
    rw [← hae, ← hbe]; rfl
  rw [hrun] at hg ⊢
  cases h1 : Nat.beq (V.of p).tag 4 with
  | false => rw [ifB_false h1] at hg; rw [ifB_false rfl]; exact slowK_sound hc inv hgs hg
  | true => cases h2 : Nat.beq (V.of q).tag 4 with
    | false => rw [ifB_true h1, ifB_false h2] at hg; rw [ifB_true rfl, ifB_false rfl]; exact slowK_sound hc inv hgs hg
    | true =>
      rw [ifB_true rfl, ifB_true rfl]
      have hp1 := tag_str (Nat.eq_of_beq_eq_true h1)
      have hq1 := tag_str (Nat.eq_of_beq_eq_true h2)
      have hb : ∀ lit, binA P op lit t p q = some (.bool (Bool.rec (Nat.beq (V.of p).a (V.of q).a && Nat.beq (V.of p).b (V.of q).b) (!(Nat.beq (V.of p).a (V.of q).a && Nat.beq (V.of p).b (V.of q).b)) neg)) := by
        intro lit
        generalize hpa : (V.of p).a = pa at hp1 ⊢
        generalize hpb : (V.of p).b = pb at hp1 ⊢
        generalize hqa : (V.of q).a = qa at hq1 ⊢
        generalize hqb : (V.of q).b = qb at hq1 ⊢
        subst hp1; subst hq1; subst hop
        cases neg <;> rfl
      refine ⟨1, _, h, evalOp_pure (kind_bin_str ho hu) (by unfold pureOp; rw [ho]; simp only [hp, hq]; exact hb _), ?_⟩
      cases Nat.beq (V.of p).a (V.of q).a <;> cases neg <;> first | rfl | (cases Nat.beq (V.of p).b (V.of q).b <;> rfl)
theorem jCat_ok {t zt : TypeId} {x y : Operand} {a b : XF n} (ho : o.op = .binOp .add t x y zt) (hu : und P t = some .string) (hx : XOk loc n cs gs x a) (hy : XOk loc n cs gs y b) : JOk P G H loc n cs gs o (jCat a b (slowS loc n cs gs o)) := by
  intro call hc f fr L h K inv hgs hg
  obtain ⟨p, hp, hae⟩ := hx f fr L inv hgs
  obtain ⟨q, hq, hbe⟩ := hy f fr L inv hgs
  have hrun : (jCat a b (slowS loc n cs gs o)).run ⟨P, G, H, call⟩ fr L h K = ifB (Nat.beq (V.of p).tag 4) (ifB (Nat.beq (V.of q).tag 4) (ifB (Nat.ble (Nat.add (V.of p).a (V.of q).a) 4611686018427387904)
      (K (V.ofS (Nat.add (V.of p).a (V.of q).a) (Nat.add (V.of p).b (Nat.shiftLeft (V.of q).b (Nat.mul 8 (V.of p).a)))) h) (slowK (slowS loc n cs gs o) ⟨P, G, H, call⟩ fr L h K)) (slowK (slowS loc n cs gs o) ⟨P, G, H, call⟩ fr L h K)) (slowK (slowS loc n cs gs o) ⟨P, G, H, call⟩ fr L h K) := by
    rw [← hae, ← hbe]; rfl
  rw [hrun] at hg ⊢
  cases h1 : Nat.beq (V.of p).tag 4 with
  | false => rw [ifB_false h1] at hg; rw [ifB_false rfl]; exact slowK_sound hc inv hgs hg
  | true => cases h2 : Nat.beq (V.of q).tag 4 with
    | false => rw [ifB_true h1, ifB_false h2] at hg; rw [ifB_true rfl, ifB_false rfl]; exact slowK_sound hc inv hgs hg
    | true => cases h3 : Nat.ble (Nat.add (V.of p).a (V.of q).a) 4611686018427387904 with
      | false => rw [ifB_true h1, ifB_true h2, ifB_false h3] at hg; rw [ifB_true rfl, ifB_true rfl, ifB_false rfl]; exact slowK_sound hc inv hgs hg
      | true =>
        rw [ifB_true rfl, ifB_true rfl, ifB_true rfl]
        have hp1 := tag_str (Nat.eq_of_beq_eq_true h1)
        have hq1 := tag_str (Nat.eq_of_beq_eq_true h2)
        refine ⟨1, .str (Nat.add (V.of p).a (V.of q).a) (Nat.add (V.of p).b (Nat.shiftLeft (V.of q).b (Nat.mul 8 (V.of p).a))), h, evalOp_pure (kind_bin_str ho hu) ?_, rfl⟩
        unfold pureOp; rw [ho]
        simp only [hp, hq]
        generalize hpa : (V.of p).a = pa at hp1 h3 ⊢
        generalize hpb : (V.of p).b = pb at hp1 ⊢
        generalize hqa : (V.of q).a = qa at hq1 h3 ⊢
        generalize hqb : (V.of q).b = qb at hq1 ⊢
        subst hp1; subst hq1
        have e : (pa + qa).ble (2 ^ 62) = true := h3
        simp only [binA, e, cond_true]
        rfl
theorem cmp_eq (t : TypeId) (lit : Bool) (k : IntKind) (i j : Nat) : binA P .eql lit t (.int k (.ofNat i)) (.int k (.ofNat j)) = some (.bool (Nat.beq i j)) := by
  simp only [binA, beq_self_eq_true, cond_true, cmpA, ofNat_beq]
theorem cmp_ne (t : TypeId) (lit : Bool) (k : IntKind) (i j : Nat) : binA P .neq lit t (.int k (.ofNat i)) (.int k (.ofNat j)) = some (.bool (Bool.rec true false (Nat.beq i j))) := by
  simp only [binA, beq_self_eq_true, cond_true, cmpA, bne, ofNat_beq]
  cases Nat.beq i j <;> rfl
theorem cmp_lt (t : TypeId) (lit : Bool) (k : IntKind) (i j : Nat) : binA P .lss lit t (.int k (.ofNat i)) (.int k (.ofNat j)) = some (.bool (Nat.blt i j)) := by
  simp only [binA, beq_self_eq_true, cond_true, cmpA, ofNat_blt]
theorem cmp_le (t : TypeId) (lit : Bool) (k : IntKind) (i j : Nat) : binA P .leq lit t (.int k (.ofNat i)) (.int k (.ofNat j)) = some (.bool (Nat.ble i j)) := by
  simp only [binA, beq_self_eq_true, cond_true, cmpA, ofNat_ble]
theorem cmp_gt (t : TypeId) (lit : Bool) (k : IntKind) (i j : Nat) : binA P .gtr lit t (.int k (.ofNat i)) (.int k (.ofNat j)) = some (.bool (Nat.blt j i)) := by
  simp only [binA, beq_self_eq_true, cond_true, cmpA, GT.gt, ofNat_blt]
theorem cmp_ge (t : TypeId) (lit : Bool) (k : IntKind) (i j : Nat) : binA P .geq lit t (.int k (.ofNat i)) (.int k (.ofNat j)) = some (.bool (Nat.ble j i)) := by
  simp only [binA, beq_self_eq_true, cond_true, cmpA, GE.ge, ofNat_ble]
theorem binC_ok {op : BinOp} {t zt : TypeId} {x y : Operand} (ho : o.op = .binOp op t x y zt) : JOk P G H loc n cs gs o (binC n loc P cs gs o op t x y) := by
  unfold binC
  split
  · rename_i k hu
    refine res_ok (jBad_ok _) fun a ha => res_ok (jBad_ok _) fun b hb => ?_
    cases op with
    | eql => exact jCmp_ok ho hu ha hb (cmp_eq t)
    | neq => exact jCmp_ok ho hu ha hb (cmp_ne t)
    | lss => exact jCmp_ok ho hu ha hb (cmp_lt t)
    | leq => exact jCmp_ok ho hu ha hb (cmp_le t)
    | gtr => exact jCmp_ok ho hu ha hb (cmp_gt t)
    | geq => exact jCmp_ok ho hu ha hb (cmp_ge t)
    | add => exact jAdd_ok ho hu ha hb
    | sub => exact jSub_ok ho hu ha hb
    | _ => exact jSlow_ok
  · rename_i hu
    refine res_ok (jBad_ok _) fun a ha => res_ok (jBad_ok _) fun b hb => ?_
    cases op with
    | eql => exact jSeq_ok (neg := false) ho rfl hu ha hb
    | neq => exact jSeq_ok (neg := true) ho rfl hu ha hb
    | add => exact jCat_ok ho hu ha hb
    | _ => exact jSlow_ok
  · exact jSlow_ok

theorem jExtract_ok {x : Operand} {i : Nat} {y : XF n} (ho : o.op = .extract x i) (hx : XOk loc n cs gs x y) : JOk P G H loc n cs gs o (jExtract y i) := by
  intro call hc f fr L h k inv hgs hg
  obtain ⟨p, hp, hye⟩ := hx f fr L inv hgs
  have hrun : (jExtract y i).run ⟨P, G, H, call⟩ fr L h k = Option.rec (motive := fun _ => Out) (.bad 30) (fun v => k (V.of v) h) (nthG (partsV (V.of p).v) i) := by rw [← hye]; rfl
  rw [hrun] at hg ⊢
  rw [V.of_v, nthG_eq] at hg ⊢
  cases hv : (partsV p)[i]? with
  | none => rw [hv] at hg; exact (not_good _ hg).elim
  | some v =>
    refine ⟨1, v, h, evalOp_pure (by unfold kindOf; rw [ho]) ?_, rfl⟩
    unfold pureOp; rw [ho]
    simp only [hp]
    cases p with
    | tuple vs => exact hv
    | _ => exact absurd hv (by show ([] : List AVal)[i]? ≠ _; simp)
theorem jIdxS_ok {t : TypeId} {x i : Operand} {a b : XF n} (ho : o.op = .index t x i) (hu : und P t = some .string) (hx : XOk loc n cs gs x a) (hi : XOk loc n cs gs i b) : JOk P G H loc n cs gs o (jIdxS a b) := by
  intro call hc f fr L h k inv hgs hg
  obtain ⟨p, hp, hae⟩ := hx f fr L inv hgs
  obtain ⟨q, hq, hbe⟩ := hi f fr L inv hgs
  have hrun : (jIdxS a b).run ⟨P, G, H, call⟩ fr L h k = ifB (Nat.beq (V.of p).tag 4) (ifB (Nat.ble 10 (V.of q).tag) (ifB (Nat.blt (V.of q).a (V.of p).a) (k (V.ofU8 (Nat.mod (Nat.shiftRight (V.of p).b (Nat.mul 8 (V.of q).a)) 256)) h) (.bad 31)) (.bad 32)) (.bad 33) := by
    rw [← hae, ← hbe]; rfl
  rw [hrun] at hg ⊢
  cases h1 : Nat.beq (V.of p).tag 4 with
  | false => rw [ifB_false h1] at hg; exact (not_good _ hg).elim
  | true => cases h2 : Nat.ble 10 (V.of q).tag with
    | false => rw [ifB_true h1, ifB_false h2] at hg; exact (not_good _ hg).elim
    | true => cases h3 : Nat.blt (V.of q).a (V.of p).a with
      | false => rw [ifB_true h1, ifB_true h2, ifB_false h3] at hg; exact (not_good _ hg).elim
      | true =>
        rw [ifB_true rfl, ifB_true rfl, ifB_true rfl]
        have hp1 := tag_str (Nat.eq_of_beq_eq_true h1)
        obtain ⟨k2, hq1, _⟩ := tag_int (x := q) (Nat.le_of_ble_eq_true h2)
        refine ⟨1, .int .u8 (.ofNat (Nat.mod (Nat.shiftRight (V.of p).b (Nat.mul 8 (V.of q).a)) 256)), h, evalOp_pure (by unfold kindOf; rw [ho]) ?_, rfl⟩
        unfold pureOp; rw [ho]
        simp only [hp, hq]
        rw [hp1, hq1]
        have hlt := blt_true h3
        unfold indexA
        rw [hu]
        have hcnd : (decide (0 ≤ Int.ofNat (V.of q).a) && decide (Int.ofNat (V.of q).a < ((V.of p).a : Int))) = true := by simp; exact hlt
        simp only [hcnd, cond_true]
        rfl
theorem jIdxA_ok {t e : TypeId} {size : Nat} {x i : Operand} {a b : XF n} (ho : o.op = .indexAddr t x i) (hu : und P t = some (.slice e)) (hs : sizeT P e = some size) (hx : XOk loc n cs gs x a) (hi : XOk loc n cs gs i b) : JOk P G H loc n cs gs o (jIdxA size a b) := by
  intro call hc f fr L h k inv hgs hg
  obtain ⟨p, hp, hae⟩ := hx f fr L inv hgs
  obtain ⟨q, hq, hbe⟩ := hi f fr L inv hgs
  have hrun : (jIdxA size a b).run ⟨P, G, H, call⟩ fr L h k = ifB (Nat.beq (V.of p).tag 6) (ifB (Nat.ble 10 (V.of q).tag) (ifB (Nat.blt (V.of q).a (V.of p).c) (ifB (Nat.beq size (V.of p).d) (k (V.ofP (V.of p).a (Nat.add (V.of p).b (Nat.mul (V.of q).a size))) h) (.bad 34)) (.bad 35)) (.bad 36)) (.bad 37) := by
    rw [← hae, ← hbe]; rfl
  rw [hrun] at hg ⊢
  cases h1 : Nat.beq (V.of p).tag 6 with
  | false => rw [ifB_false h1] at hg; exact (not_good _ hg).elim
  | true => cases h2 : Nat.ble 10 (V.of q).tag with
    | false => rw [ifB_true h1, ifB_false h2] at hg; exact (not_good _ hg).elim
    | true => cases h3 : Nat.blt (V.of q).a (V.of p).c with
      | false => rw [ifB_true h1, ifB_true h2, ifB_false h3] at hg; exact (not_good _ hg).elim
      | true => cases h4 : Nat.beq size (V.of p).d with
        | false => rw [ifB_true h1, ifB_true h2, ifB_true h3, ifB_false h4] at hg; exact (not_good _ hg).elim
        | true =>
          rw [ifB_true rfl, ifB_true rfl, ifB_true rfl, ifB_true rfl]
          obtain ⟨cap, ex, hp1⟩ := tag_slice (Nat.eq_of_beq_eq_true h1)
          obtain ⟨k2, hq1, _⟩ := tag_int (x := q) (Nat.le_of_ble_eq_true h2)
          refine ⟨1, .ptr (V.of p).a (Nat.add (V.of p).b (Nat.mul (V.of q).a size)), h, evalOp_pure (by unfold kindOf; rw [ho]) ?_, rfl⟩
          unfold pureOp; rw [ho]
          simp only [hp, hq]
          rw [hp1, hq1]
          have hlt := blt_true h3
          unfold indexAddrA
          rw [hu]
          have hcnd : (decide (0 ≤ Int.ofNat (V.of q).a) && decide (Int.ofNat (V.of q).a < ((V.of p).c : Int)) && Nat.beq size (V.of p).d) = true := by rw [h4]; simp; exact hlt
          simp only [hs, hcnd, cond_true]
          rfl
theorem kind_len {c : Call} {t : TypeId} {ts : List TypeId} (ho : o.op = .call c) (hb : c.callee = .builtin .len) (ht : c.argTypes.toList = t :: ts) (hu : ∀ k e, und P t ≠ some (.map k e)) : kindOf P o = .pure := by
  unfold kindOf
  rw [ho]
  have : c.argTypes[0]? = some t := by rw [← Array.getElem?_toList, ht]; rfl
  simp only [hb, this, Option.bind_some]
theorem jLenS_ok {c : Call} {x : Operand} {t : TypeId} {ts : List TypeId} {y : XF n} (ho : o.op = .call c) (hb : c.callee = .builtin .len) (ha : c.args.toList = [x]) (ht : c.argTypes.toList = t :: ts) (hu : und P t = some .string) (hx : XOk loc n cs gs x y) :
    JOk P G H loc n cs gs o (jLenS y (slowS loc n cs gs o)) := by
  intro call hc f fr L h k inv hgs hg
  obtain ⟨p, hp, hye⟩ := hx f fr L inv hgs
  have hrun : (jLenS y (slowS loc n cs gs o)).run ⟨P, G, H, call⟩ fr L h k = ifB (Nat.beq (V.of p).tag 4) (k (V.ofI (V.of p).a) h) (slowK (slowS loc n cs gs o) ⟨P, G, H, call⟩ fr L h k) := by rw [← hye]; rfl
  rw [hrun] at hg ⊢
  cases h1 : Nat.beq (V.of p).tag 4 with
  | false => rw [ifB_false h1] at hg; rw [ifB_false rfl]; exact slowK_sound hc inv hgs hg
  | true =>
    rw [ifB_true rfl]
    have hp1 := tag_str (Nat.eq_of_beq_eq_true h1)
    refine ⟨1, .int .i64 (.ofNat (V.of p).a), h, evalOp_pure (kind_len ho hb ht fun k e => by rw [hu]; simp) ?_, rfl⟩
    unfold pureOp; rw [ho]
    simp only [hb, ha, opdsA, hp, ht, Option.pure_def, Option.bind_eq_bind, Option.bind_some]
    rw [hp1]
    simp only [pureBuiltin, hu]
    rfl
theorem jLenL_ok {c : Call} {x : Operand} {t e : TypeId} {ts : List TypeId} {y : XF n} (ho : o.op = .call c) (hb : c.callee = .builtin .len) (ha : c.args.toList = [x]) (ht : c.argTypes.toList = t :: ts) (hu : und P t = some (.slice e)) (hx : XOk loc n cs gs x y) :
    JOk P G H loc n cs gs o (jLenL y (slowS loc n cs gs o)) := by
  intro call hc f fr L h k inv hgs hg
  obtain ⟨p, hp, hye⟩ := hx f fr L inv hgs
  have hrun : (jLenL y (slowS loc n cs gs o)).run ⟨P, G, H, call⟩ fr L h k = ifB (Nat.beq (V.of p).tag 6) (k (V.ofI (V.of p).c) h) (ifB (Nat.beq (V.of p).tag 7) (k (V.ofI 0) h) (slowK (slowS loc n cs gs o) ⟨P, G, H, call⟩ fr L h k)) := by rw [← hye]; rfl
  rw [hrun] at hg ⊢
  have hk : kindOf P o = .pure := kind_len ho hb ht fun k e => by rw [hu]; simp
  cases h1 : Nat.beq (V.of p).tag 6 with
  | false => cases h2 : Nat.beq (V.of p).tag 7 with
    | false => rw [ifB_false h1, ifB_false h2] at hg; rw [ifB_false rfl, ifB_false rfl]; exact slowK_sound hc inv hgs hg
    | true =>
      rw [ifB_false rfl, ifB_true rfl]
      have hp1 := tag_nilslice (Nat.eq_of_beq_eq_true h2)
      refine ⟨1, .int .i64 (.ofNat 0), h, evalOp_pure hk ?_, rfl⟩
      unfold pureOp; rw [ho]
      simp only [hb, ha, opdsA, hp, ht, Option.pure_def, Option.bind_eq_bind, Option.bind_some]
      rw [hp1]
      simp only [pureBuiltin, hu]
      rfl
  | true =>
    rw [ifB_true rfl]
    obtain ⟨cap, ex, hp1⟩ := tag_slice (Nat.eq_of_beq_eq_true h1)
    refine ⟨1, .int .i64 (.ofNat (V.of p).c), h, evalOp_pure hk ?_, rfl⟩
    unfold pureOp; rw [ho]
    simp only [hb, ha, opdsA, hp, ht, Option.pure_def, Option.bind_eq_bind, Option.bind_some]
    rw [hp1]
    simp only [pureBuiltin, hu]
    rfl
theorem evalOp_call {f : T AVal} {h : Hp} {c : Call} {g : FuncId} {args : List AVal} {m : Nat} {r : AVal × Hp} (ho : o.op = .call c) (hb : ∀ b, c.callee ≠ .builtin b) (ht : targetA P f c = some (g, args)) (he : evalCall P G H m g args h = some r) : evalOp P G H (m + 1) f h o = some r := by
  have hk : kindOf P o = .eff := by
    unfold kindOf; rw [ho]
    cases hc : c.callee with
    | builtin b => exact absurd hc (hb b)
    | _ => simp [hc]
  unfold evalOp
  rw [hk]
  simp only [ho]
  cases hcal : c.callee with
  | builtin b => exact absurd hcal (hb b)
  | _ => simp only [ht]; exact he
theorem jCall_ok {c : Call} {g : FuncId} {ys : List (XF n)} (ho : o.op = .call c) (hb : c.callee = .value (.func g)) (hx : XsOk loc n cs gs c.args.toList ys) : JOk P G H loc n cs gs o (jCall g ys) := by
  intro call hc f fr L h k inv hgs hg
  obtain ⟨e1, e2⟩ := hx.ev inv hgs
  have hrun : (jCall g ys).run ⟨P, G, H, call⟩ fr L h k = call g (evL ys fr L) (frOf (evL ys fr L) 0 .e) h k := by rw [← e2]; rfl
  rw [hrun] at hg ⊢
  obtain ⟨m, v, h', he, hr⟩ := hc _ _ _ _ hg
  refine ⟨m + 1, v, h', evalOp_call ho (fun b => by rw [hb]; simp) ?_ he, hr⟩
  unfold targetA
  simp only [e1, hb, opdA]
  simp
theorem funcA_good {x : AVal} {k : FuncId → List AVal → List AVal → Out} (hg : Good (funcA x k)) : ∃ g a c, x = .func (.func g) a c ∧ funcA x k = k g a c := by
  cases x with
  | func fn a c => cases fn with
    | func g => exact ⟨g, a, c, rfl, rfl⟩
    | _ => exact (not_good _ hg).elim
  | _ => exact (not_good _ hg).elim
theorem jCallv_ok {c : Call} {x : Operand} {y : XF n} {ys : List (XF n)} (ho : o.op = .call c) (hb : c.callee = .value x) (hx : XOk loc n cs gs x y) (hxs : XsOk loc n cs gs c.args.toList ys) : JOk P G H loc n cs gs o (jCallv y ys) := by
  intro call hc f fr L h k inv hgs hg
  obtain ⟨p, hp, hye⟩ := hx f fr L inv hgs
  obtain ⟨e1, e2⟩ := hxs.ev inv hgs
  have hrun : (jCallv y ys).run ⟨P, G, H, call⟩ fr L h k = funcA p (fun f a c => call f (a ++ evL ys fr L ++ c) (frOf (a ++ evL ys fr L ++ c) 0 .e) h k) := by
    show funcA (y.ev fr L).v _ = _
    rw [hye, V.of_v]
  rw [hrun] at hg ⊢
  obtain ⟨g, a, c', hpf, hr1⟩ := funcA_good hg
  rw [hr1] at hg ⊢
  obtain ⟨m, v, h', he, hr⟩ := hc _ _ _ _ hg
  refine ⟨m + 1, v, h', evalOp_call ho (fun b => by rw [hb]; simp) ?_ he, hr⟩
  unfold targetA
  simp only [e1, hb, hp, hpf]
theorem callC_ok {c : Call} (ho : o.op = .call c) : JOk P G H loc n cs gs o (callC n loc P cs gs o c) := by
  unfold callC
  cases hcal : c.callee with
  | value x =>
    cases x with
    | func g => exact resL_ok (jBad_ok _) fun ys hys => jCall_ok ho hcal hys
    | _ => exact res_ok (jBad_ok _) fun y hy => resL_ok (jBad_ok _) fun ys hys => jCallv_ok ho hcal hy hys
  | invoke r nm => exact jSlow_ok
  | builtin b =>
    simp only
    split
    · split
      · rename_i x t ts ha ht
        split
        · rename_i hu
          exact res_ok (jBad_ok _) fun y hy => jLenS_ok ho hcal ha ht hu hy
        · rename_i e hu
          exact res_ok (jBad_ok _) fun y hy => jLenL_ok ho hcal ha ht hu hy
        · exact jSlow_ok
      · exact jSlow_ok
    · exact jSlow_ok

theorem compO_ok : JOk P G H loc n cs gs o (compO o.op n loc P cs gs o).j := by
  cases ho : o.op with
  | move x => exact res_ok (jBad_ok _) fun y hy => jMov_ok (.inl ho) hy
  | assign x => exact res_ok (jBad_ok _) fun y hy => jMov_ok (.inr ho) hy
  | pick c a b =>
    show JOk P G H loc n cs gs o (pickC n loc cs gs c a b)
    unfold pickC
    cases c with
    | tmp t => exact res_ok (jBad_ok _) fun x hx => res_ok (jBad_ok _) fun y hy => res_ok (jBad_ok _) fun z hz => jPick_ok ho hx hy hz
    | _ => exact jBad_ok _
  | load t a =>
    show JOk P G H loc n cs gs o (loadC n loc P cs gs o t a)
    unfold loadC
    split
    · rename_i ha; exact res_ok (jBad_ok _) fun y hy => jLoad_ok ho ha hy
    · exact jSlow_ok
  | store t a x =>
    show JOk P G H loc n cs gs o (storeC n loc P cs gs o t a x)
    unfold storeC
    split
    · rename_i hs; exact res_ok (jBad_ok _) fun y hy => res_ok (jBad_ok _) fun z hz => jStore_ok ho hs hy hz
    · exact jSlow_ok
  | nilCheck x => exact res_ok (jBad_ok _) fun y hy => jChk_ok ho hy
  | binOp op t x y z => exact binC_ok ho
  | unOp op t x =>
    cases op with
    | not => exact res_ok (jBad_ok _) fun y hy => jNot_ok ho hy
    | _ => exact jSlow_ok
  | fieldAddr s x f =>
    show JOk P G H loc n cs gs o (faddrC n loc P cs gs o s x f)
    unfold faddrC
    split
    · rename_i fields hu
      split
      · rename_i fd hfd
        split
        · rename_i m hs; exact res_ok (jBad_ok _) fun y hy => jFaddr_ok ho hu hfd hs hy
        · exact jBad_ok _
      · exact jBad_ok _
    · exact jBad_ok _
  | indexAddr t x i =>
    show JOk P G H loc n cs gs o (idxaC n loc P cs gs o t x i)
    unfold idxaC
    split
    · rename_i e hu
      split
      · rename_i size hs; exact res_ok (jBad_ok _) fun a ha => res_ok (jBad_ok _) fun b hb => jIdxA_ok ho hu hs ha hb
      · exact jBad_ok _
    · exact jSlow_ok
  | index t x i =>
    show JOk P G H loc n cs gs o (idxC n loc P cs gs o t x i)
    unfold idxC
    split
    · rename_i hu; exact res_ok (jBad_ok _) fun a ha => res_ok (jBad_ok _) fun b hb => jIdxS_ok ho hu ha hb
    · exact jSlow_ok
  | extract x i => exact res_ok (jBad_ok _) fun y hy => jExtract_ok ho hy
  | call c => exact callC_ok ho
  | _ => exact jSlow_ok
theorem compO_mv {x : Operand} (h : (compO o.op n loc P cs gs o).mv = some x) : o.op = .move x ∨ o.op = .assign x := by
  cases ho : o.op with
  | move y => rw [ho] at h; cases h; exact .inl rfl
  | assign y => rw [ho] at h; cases h; exact .inr rfl
  | _ => rw [ho] at h; cases h
end
end
end Go.Ae
