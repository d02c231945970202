/- Operations look at their operands alone; equality of values; memories within memories. -/
import Derived.Test.YteginejafomfmaaGreatDoorAeOrd
set_option linter.unusedVariables false
set_option linter.unusedSimpArgs false
set_option maxHeartbeats 1000000
namespace Go.Ae
open Go

section
variable {P : Program} {fr fr' : T AVal}

theorem opdA_congr {x : Operand} (h : ∀ t, x = .tmp t → fr.get t = fr'.get t) : opdA fr x = opdA fr' x := by
  cases x with
  | tmp t => simp only [opdA, h t rfl]
  | _ => rfl
theorem opdsA_congr : ∀ {l : List Operand}, (∀ x ∈ l, opdA fr x = opdA fr' x) → opdsA fr l = opdsA fr' l
  | [], _ => rfl
  | x :: l, h => by simp only [opdsA, h x (List.mem_cons_self ..), opdsA_congr fun y hy => h y (List.mem_cons_of_mem _ hy)]
theorem partsA_congr : ∀ {l : List (Nat × Operand)}, (∀ x ∈ l, opdA fr x.2 = opdA fr' x.2) → partsA fr l = partsA fr' l
  | [], _ => rfl
  | (i, x) :: l, h => by
    simp only [partsA, h (i, x) (List.mem_cons_self ..), partsA_congr fun y hy => h y (List.mem_cons_of_mem _ hy)]
theorem optA_congr {x : Option Operand} (h : ∀ y, x = some y → opdA fr y = opdA fr' y) : optA fr x = optA fr' x := by
  cases x with
  | none => rfl
  | some y => simp only [optA, h y rfl]

theorem pureOp_congr {o : Oper} (h : ∀ x ∈ o.op.operands, opdA fr x = opdA fr' x) : pureOp P fr o = pureOp P fr' o := by
  obtain ⟨dst, op, type, pos, after, guard⟩ := o
  cases op <;> simp only [Op.operands] at h <;> simp only [pureOp]
  case build t ps =>
    unfold buildA
    rw [partsA_congr (fr := fr) (fr' := fr') fun x hx => h x.2 (by simp only [List.mem_toArray, List.mem_map]; exact ⟨x, hx, rfl⟩)]
  case makeFunc fn first captured =>
    rw [opdsA_congr (fr := fr) (fr' := fr') (l := first.toList) fun x hx => h x (by simp at hx; simp [hx]), opdsA_congr (fr := fr) (fr' := fr') (l := captured.toList) fun x hx => h x (by simp at hx; simp [hx])]
  case call c =>
    rw [opdsA_congr (fr := fr) (fr' := fr') (l := c.args.toList) fun x hx => h x (by simp at hx; simp [Call.operands, hx])]
  case slice t x lo hi mx =>
    rw [h x (by simp), optA_congr (fr := fr) (fr' := fr') (x := lo) fun y hy => h y (by simp [hy]), optA_congr (fr := fr) (fr' := fr') (x := hi) fun y hy => h y (by simp [hy]), optA_congr (fr := fr) (fr' := fr') (x := mx) fun y hy => h y (by simp [hy])]
  all_goals (first | rfl | (simp_all; done))

theorem readOp_congr {G : Nat → Option AVal} {hp : Hp} {o : Oper} (h : ∀ x ∈ o.op.operands, opdA fr x = opdA fr' x) : readOp P G fr hp o = readOp P G fr' hp o := by
  obtain ⟨dst, op, type, pos, after, guard⟩ := o
  cases op <;> simp only [Op.operands] at h <;> simp only [readOp]
  case call c =>
    rw [opdsA_congr (fr := fr) (fr' := fr') (l := c.args.toList) fun x hx => h x (by simp at hx; simp [Call.operands, hx])]
  case slice t x lo hi mx =>
    rw [h x (by simp), optA_congr (fr := fr) (fr' := fr') (x := lo) fun y hy => h y (by simp [hy]), optA_congr (fr := fr) (fr' := fr') (x := hi) fun y hy => h y (by simp [hy]), optA_congr (fr := fr) (fr' := fr') (x := mx) fun y hy => h y (by simp [hy])]
  all_goals (first | rfl | (simp_all; done))

theorem allocOp_congr {id : Nat} {o : Oper} (h : ∀ x ∈ o.op.operands, opdA fr x = opdA fr' x) : allocOp P fr id o = allocOp P fr' id o := by
  obtain ⟨dst, op, type, pos, after, guard⟩ := o
  cases op <;> simp only [Op.operands] at h <;> simp only [allocOp]
  case makeMap t r => cases r <;> rfl
  case buildSlice t n ps =>
    rw [partsA_congr (fr := fr) (fr' := fr') fun x hx => h x.2 (by simp only [List.mem_toArray, List.mem_map]; exact ⟨x, hx, rfl⟩)]
  all_goals (first | rfl | (simp_all; done))

theorem effOp_congr {hp : Hp} {o : Oper} (h : ∀ x ∈ o.op.operands, opdA fr x = opdA fr' x) : effOp P fr hp o = effOp P fr' hp o := by
  obtain ⟨dst, op, type, pos, after, guard⟩ := o
  cases op <;> simp only [Op.operands] at h <;> simp only [effOp]
  case call c =>
    rw [opdsA_congr (fr := fr) (fr' := fr') (l := c.args.toList) fun x hx => h x (by simp at hx; simp [Call.operands, hx])]
  case makeMap t r => cases r <;> simp_all
  case next it s => cases s <;> simp_all
  all_goals (first | rfl | (simp_all; done))

theorem targetA_congr {c : Call} (h : ∀ x ∈ c.operands, opdA fr x = opdA fr' x) : targetA P fr c = targetA P fr' c := by
  unfold targetA
  rw [opdsA_congr (fr := fr) (fr' := fr') (l := c.args.toList) fun x hx => h x (by simp at hx; simp [Call.operands, hx])]
  cases hc : c.callee with
  | value f => simp only [h f (by simp [Call.operands, hc])]
  | invoke r m => simp only [h r (by simp [Call.operands, hc])]
  | builtin b => rfl

variable {G : Nat → Option AVal} {H : Hook}
theorem evalOp_congr {n : Nat} {hp : Hp} {o : Oper} (h : ∀ x ∈ o.op.operands, opdA fr x = opdA fr' x) : evalOp P G H n fr hp o = evalOp P G H n fr' hp o := by
  cases n with
  | zero => simp only [evalOp]
  | succ n =>
    simp only [evalOp]
    rw [pureOp_congr h, readOp_congr h, allocOp_congr h, effOp_congr h]
    cases ho : o.op with
    | call c => simp only; rw [targetA_congr (fr := fr) (fr' := fr') fun x hx => h x (by rw [ho]; exact hx)]
    | binOp op t x y z => simp only; rw [h x (by rw [ho]; simp [Op.operands]), h y (by rw [ho]; simp [Op.operands])]
    | _ => rfl

theorem beqL_eq {n : Nat} (ih : ∀ a b, beqV n a b = true → a = b) : ∀ (l m : List AVal), beqV.beqL n l m = true → l = m
  | [], [], _ => rfl
  | a :: l, b :: m, h => by
    simp only [beqV.beqL, Bool.and_eq_true] at h
    rw [ih _ _ h.1, beqL_eq ih l m h.2]
  | [], _ :: _, h => by simp [beqV.beqL] at h
  | _ :: _, [], h => by simp [beqV.beqL] at h
theorem beqV_eq : ∀ (n : Nat) (a b : AVal), beqV n a b = true → a = b
  | 0, a, b, h => by simp [beqV] at h
  | n + 1, a, b, h => by
    have ih := beqV_eq n
    have ihl := beqL_eq ih
    cases a with
    | func fn x y =>
      cases b with
      | func gn u v =>
        simp only [beqV, Bool.and_eq_true, decide_eq_true_eq] at h
        obtain ⟨⟨h0, h1⟩, h2⟩ := h
        rw [h0, ihl _ _ h1, ihl _ _ h2]
      | _ => simp [beqV] at h
    | iface t v =>
      cases b with
      | iface u w =>
        simp only [beqV, Bool.and_eq_true, Nat.beq_eq_true_eq] at h
        obtain ⟨h0, h1⟩ := h
        rw [Nat.eq_of_beq_eq_true h0, ih _ _ h1]
      | _ => simp [beqV] at h
    | agg x =>
      cases b with
      | agg y => simp only [beqV] at h; rw [ihl _ _ h]
      | _ => simp [beqV] at h
    | tuple x =>
      cases b with
      | tuple y => simp only [beqV] at h; rw [ihl _ _ h]
      | _ => simp [beqV] at h
    | _ =>
      cases b with
      | func fn x y => simp [beqV] at h
      | _ => first | rfl | (simp [beqV] at h; done) | (simp only [beqV, Bool.and_eq_true, Nat.beq_eq_true_eq, beq_iff_eq] at h; simp_all; done) | (simp [beqV] at h; simp_all; done)
theorem beqV_refl : ∀ (n : Nat) (a : AVal), depA a < n → beqV n a a = true := by
  intro n
  induction n with
  | zero => intro a h; omega
  | succ n ih =>
    have ihl : ∀ l : List AVal, depL l < n ∨ l = [] → beqV.beqL n l l = true := by
      intro l
      induction l with
      | nil => intro _; rfl
      | cons x l il =>
        intro h
        have h : depL (x :: l) < n := by rcases h with h | h; exact h; cases h
        have e : depL (x :: l) = Nat.max (depA x) (depL l) := by simp [depL]
        rw [e] at h
        have h1 : depA x < n := Nat.lt_of_le_of_lt (Nat.le_max_left _ _) h
        have h2 : depL l < n := Nat.lt_of_le_of_lt (Nat.le_max_right _ _) h
        simp only [beqV.beqL, Bool.and_eq_true]
        exact ⟨ih x h1, il (.inl h2)⟩
    intro a h
    cases a with
    | func f x y =>
      have e : depA (.func f x y) = Nat.max (depL x) (depL y) + 1 := by simp [depA]
      rw [e] at h
      have h0 : Nat.max (depL x) (depL y) < n := Nat.lt_of_succ_lt_succ h
      have h1 : depL x < n := Nat.lt_of_le_of_lt (Nat.le_max_left (depL x) (depL y)) h0
      have h2 : depL y < n := Nat.lt_of_le_of_lt (Nat.le_max_right (depL x) (depL y)) h0
      simp [beqV, ihl x (.inl h1), ihl y (.inl h2)]
    | iface t v => simp [depA] at h; simp [beqV, ih v h]
    | agg l => simp [depA] at h; simp [beqV, ihl l (.inl h)]
    | tuple l => simp [depA] at h; simp [beqV, ihl l (.inl h)]
    | _ => simp [beqV]
end

section
variable {E : Env} {β : Beta} {h hh : Hp} {w : World}
/-- A smaller memory stands to the world as well. -/
theorem Rel.sub (r : Rel E β hh w) (hs : ∀ b x, h.get b = some x → hh.get b = some x) (hn : h.next = hh.next) : Rel E β h w where
  blk := fun b x hx => by rw [hn]; exact r.blk b x (hs b x hx)
  inj := fun b b' x x' L L' h1 h2 => r.inj b b' x x' L L' (hs _ _ h1) (hs _ _ h2)
  fresh := fun b hb => r.fresh b (by rw [← hn]; exact hb)
  glob := r.glob
  size := r.size

/-- What a step leaves alone stands beside it as before. -/
theorem Rel.frame (r : Rel E β hh w) (hs : ∀ b x, h.get b = some x → hh.get b = some x) (hn : h.next = hh.next) {β' : Beta} {h' hh' : Hp} {w' : World} (r' : Rel E β' h' w') (f : Frm β h w β' h' w')
    (hn' : hh'.next = h'.next) (hg : ∀ b x, hh'.get b = some x → h'.get b = some x ∨ (hh.get b = some x ∧ h.get b = none)) : Rel E β' hh' w' where
  blk := fun b x hx => by
    rw [hn']
    rcases hg b x hx with h1 | ⟨h1, h2⟩
    · exact r'.blk b x h1
    · obtain ⟨hlt, L, o, hL, hb, ho, hB⟩ := r.blk b x h1
      refine ⟨by have := f.next; omega, L, o, by rw [f.ext b (by omega)]; exact hL, hb, ?_, hB.mono (f.Ext (r.sub hs hn))⟩
      rw [f.same L.blk (Array.getElem?_eq_some_iff.1 ho).1 ?_]
      · exact ho
      · intro b0 x0 L0 h3 h4 e
        have := r.inj b0 b x0 x L0 L (hs _ _ h3) h1 h4 hL e
        subst this
        rw [h2] at h3; cases h3
  inj := fun b b' x x' L L' h1 h2 hL hL' e => by
    have side : ∀ b b' x x' L L', h'.get b = some x → hh.get b' = some x' → h.get b' = none → β' b = some L → β' b' = some L' → L.blk = L'.blk → False := by
      intro b b' x x' L L' h1 h2 h3 hL hL' e
      obtain ⟨hlt, L1, o, hL1, _, ho, _⟩ := r.blk b' x' h2
      have : L' = L1 := by
        rw [f.ext b' (by omega)] at hL'; rw [hL'] at hL1; cases hL1; rfl
      subst this
      obtain ⟨b0, x0, L0, h5, h6, h7⟩ := f.range b x L h1 hL (by rw [e]; exact (Array.getElem?_eq_some_iff.1 ho).1)
      have := r.inj b0 b' x0 x' L0 L' (hs _ _ h5) h2 h6 hL1 (by rw [h7, e])
      subst this
      rw [h3] at h5; cases h5
    rcases hg b x h1 with p1 | ⟨p1, p2⟩
    · rcases hg b' x' h2 with q1 | ⟨q1, q2⟩
      · exact r'.inj b b' x x' L L' p1 q1 hL hL' e
      · exact (side b b' x x' L L' p1 q1 q2 hL hL' e).elim
    · rcases hg b' x' h2 with q1 | ⟨q1, q2⟩
      · exact (side b' b x' x L' L q1 p1 p2 hL' hL e.symm).elim
      · have hb1 := (r.blk b x p1).1
        have hb2 := (r.blk b' x' q1).1
        rw [f.ext b (by omega)] at hL
        rw [f.ext b' (by omega)] at hL'
        exact r.inj b b' x x' L L' p1 q1 hL hL' e
  fresh := fun b hb => r'.fresh b (by rw [← hn']; exact hb)
  glob := r'.glob
  size := r'.size

theorem Frm.frame (r : Rel E β hh w) (hs : ∀ b x, h.get b = some x → hh.get b = some x) (hn : h.next = hh.next) {β' : Beta} {h' hh' : Hp} {w' : World} (f : Frm β h w β' h' w')
    (hn' : hh'.next = h'.next) (hg : ∀ b x, hh'.get b = some x → h'.get b = some x ∨ (hh.get b = some x ∧ h.get b = none)) : Frm β hh w β' hh' w' where
  next := by rw [hn', ← hn]; exact f.next
  ext := fun b hb => f.ext b (by rw [hn]; exact hb)
  size := f.size
  same := fun k hk hno => f.same k hk fun b x L h1 h2 => hno b x L (hs _ _ h1) h2
  range := fun b x L hx hL hlt => by
    rcases hg b x hx with p | ⟨p, q⟩
    · obtain ⟨b0, x0, L0, h1, h2, h3⟩ := f.range b x L p hL hlt
      exact ⟨b0, x0, L0, hs _ _ h1, h2, h3⟩
    · refine ⟨b, x, L, p, ?_, rfl⟩
      rw [← f.ext b (by have := (r.blk b x p).1; omega)]; exact hL
  dom := fun b hb hnone => by
    cases hx : hh'.get b with
    | none => rfl
    | some x =>
      rcases hg b x hx with p | ⟨p, _⟩
      · have : h.get b = none := by
          cases hy : h.get b with
          | none => rfl
          | some y => rw [hs _ _ hy] at hnone; cases hnone
        rw [f.dom b (by rw [hn]; exact hb) this] at p; cases p
      · rw [hnone] at p; cases p
  os := f.os
  tape := f.tape
  output := f.output

theorem exists_puts (h : Hp) (base : Nat) (f : Nat → Option Blk) : ∀ n, ∃ h' : Hp, h'.next = h.next ∧ ∀ b, h'.get b = ((if base ≤ b ∧ b < base + n then f (b - base) else none).orElse fun _ => h.get b)
  | 0 => ⟨h, rfl, fun b => by rw [if_neg (by omega)]; rfl⟩
  | n + 1 => by
    obtain ⟨h', h1, h2⟩ := exists_puts h base f n
    cases hf : f n with
    | none =>
      refine ⟨h', h1, fun b => ?_⟩
      rw [h2]
      by_cases e : b = base + n
      · subst e
        rw [if_neg (by omega), if_pos (by omega)]
        have : base + n - base = n := by omega
        rw [this, hf]
      · by_cases h3 : base ≤ b ∧ b < base + n
        · rw [if_pos h3, if_pos (by omega)]
        · rw [if_neg h3, if_neg (by omega)]
    | some x =>
      refine ⟨h'.put (base + n) x, h1, fun b => ?_⟩
      rw [Hp.get_put]
      by_cases e : base + n = b
      · subst e
        rw [if_pos rfl, if_pos (by omega)]
        have : base + n - base = n := by omega
        rw [this, hf]; rfl
      · rw [if_neg e, h2]
        by_cases h3 : base ≤ b ∧ b < base + n
        · rw [if_pos h3, if_pos (by omega)]
        · rw [if_neg h3, if_neg (by omega)]
end
end Go.Ae
