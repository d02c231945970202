/- Tries of eight ways: what the evaluator's frames, rows and memory are kept in. -/
namespace Go.Ae
structure V8 (α : Type) where
  (c0 c1 c2 c3 c4 c5 c6 c7 : α)
inductive D8 where
  | d0 | d1 | d2 | d3 | d4 | d5 | d6 | d7
section
variable {α : Type}
noncomputable def V8.up0 (f : α → α) (t : V8 α) : V8 α := V8.rec (motive := fun _ => V8 α) (fun c0 c1 c2 c3 c4 c5 c6 c7 => ⟨f c0, c1, c2, c3, c4, c5, c6, c7⟩) t
noncomputable def V8.up1 (f : α → α) (t : V8 α) : V8 α := V8.rec (motive := fun _ => V8 α) (fun c0 c1 c2 c3 c4 c5 c6 c7 => ⟨c0, f c1, c2, c3, c4, c5, c6, c7⟩) t
noncomputable def V8.up2 (f : α → α) (t : V8 α) : V8 α := V8.rec (motive := fun _ => V8 α) (fun c0 c1 c2 c3 c4 c5 c6 c7 => ⟨c0, c1, f c2, c3, c4, c5, c6, c7⟩) t
noncomputable def V8.up3 (f : α → α) (t : V8 α) : V8 α := V8.rec (motive := fun _ => V8 α) (fun c0 c1 c2 c3 c4 c5 c6 c7 => ⟨c0, c1, c2, f c3, c4, c5, c6, c7⟩) t
noncomputable def V8.up4 (f : α → α) (t : V8 α) : V8 α := V8.rec (motive := fun _ => V8 α) (fun c0 c1 c2 c3 c4 c5 c6 c7 => ⟨c0, c1, c2, c3, f c4, c5, c6, c7⟩) t
noncomputable def V8.up5 (f : α → α) (t : V8 α) : V8 α := V8.rec (motive := fun _ => V8 α) (fun c0 c1 c2 c3 c4 c5 c6 c7 => ⟨c0, c1, c2, c3, c4, f c5, c6, c7⟩) t
noncomputable def V8.up6 (f : α → α) (t : V8 α) : V8 α := V8.rec (motive := fun _ => V8 α) (fun c0 c1 c2 c3 c4 c5 c6 c7 => ⟨c0, c1, c2, c3, c4, c5, f c6, c7⟩) t
noncomputable def V8.up7 (f : α → α) (t : V8 α) : V8 α := V8.rec (motive := fun _ => V8 α) (fun c0 c1 c2 c3 c4 c5 c6 c7 => ⟨c0, c1, c2, c3, c4, c5, c6, f c7⟩) t
noncomputable def D8.sel (d : D8) : V8 α → α := D8.rec (motive := fun _ => V8 α → α) V8.c0 V8.c1 V8.c2 V8.c3 V8.c4 V8.c5 V8.c6 V8.c7 d
noncomputable def D8.upd (d : D8) : (α → α) → V8 α → V8 α := D8.rec (motive := fun _ => (α → α) → V8 α → V8 α) V8.up0 V8.up1 V8.up2 V8.up3 V8.up4 V8.up5 V8.up6 V8.up7 d
def V8.all (x : α) : V8 α := ⟨x, x, x, x, x, x, x, x⟩
end
abbrev V8.L2 (α : Type) := V8 (V8 α)
abbrev V8.L4 (α : Type) := V8.L2 (V8.L2 α)
abbrev V8.L6 (α : Type) := V8.L2 (V8.L4 α)

inductive BPos where
  | h
  | o (p : BPos)
  | i (p : BPos)
def BPos.aux : Nat → Nat → BPos
  | 0, _ => .h
  | f + 1, n => bif Nat.ble n 1 then .h else bif Nat.beq (n % 2) 0 then .o (BPos.aux f (n / 2)) else .i (BPos.aux f (n / 2))
inductive Bin (α : Type) where
  | e
  | n (l : Bin α) (v : Option α) (r : Bin α)
namespace Bin
variable {α : Type}
def left : Bin α → Bin α
  | .e => .e
  | .n l _ _ => l
def right : Bin α → Bin α
  | .e => .e
  | .n _ _ r => r
def val : Bin α → Option α
  | .e => none
  | .n _ v _ => v
end Bin
def BPos.get {α : Type} : BPos → Bin α → Option α
  | .h => fun t => t.val
  | .o p => fun t => p.get t.left
  | .i p => fun t => p.get t.right
def BPos.set {α : Type} (x : Option α) : BPos → Bin α → Bin α
  | .h => fun t => .n t.left x t.right
  | .o p => fun t => .n (p.set x t.left) t.val t.right
  | .i p => fun t => .n t.left t.val (p.set x t.right)

structure T (α : Type) where
  (a : V8.L2 (Option α)) (b : V8.L4 (Option α)) (c : V8.L6 (Option α)) (d : Bin α)
def T.e {α : Type} : T α := ⟨.all (.all none), .all (.all (.all (.all none))), .all (.all (.all (.all (.all (.all none))))), .e⟩

inductive Pos where
  | a (x y : D8)
  | b (x y z u : D8)
  | c (x y z u v w : D8)
  | d (p : BPos)
noncomputable def dig (n : Nat) : D8 := Bool.rec (Bool.rec (Bool.rec .d7 .d6 (Nat.blt n (nat_lit 7))) (Bool.rec .d5 .d4 (Nat.blt n (nat_lit 5))) (Nat.blt n (nat_lit 6))) (Bool.rec (Bool.rec .d3 .d2 (Nat.blt n (nat_lit 3))) (Bool.rec .d1 .d0 (Nat.blt n (nat_lit 1))) (Nat.blt n (nat_lit 2))) (Nat.blt n (nat_lit 4))
noncomputable def posOf (n : Nat) : Pos :=
  Bool.rec (Bool.rec (Bool.rec (.d (BPos.aux (Nat.succ n) (Nat.succ n)))
    (.c (dig (Nat.div n 32768)) (dig (Nat.mod (Nat.div n 4096) 8)) (dig (Nat.mod (Nat.div n 512) 8)) (dig (Nat.mod (Nat.div n 64) 8)) (dig (Nat.mod (Nat.div n 8) 8)) (dig (Nat.mod n 8))) (Nat.blt n 262144))
    (.b (dig (Nat.div n 512)) (dig (Nat.mod (Nat.div n 64) 8)) (dig (Nat.mod (Nat.div n 8) 8)) (dig (Nat.mod n 8))) (Nat.blt n 4096))
    (.a (dig (Nat.div n 8)) (dig (Nat.mod n 8))) (Nat.blt n 64)
section
variable {α : Type}
noncomputable def Pos.get (p : Pos) : T α → Option α := Pos.rec (motive := fun _ => T α → Option α)
  (fun x y t => y.sel (x.sel t.a))
  (fun x y z u t => u.sel (z.sel (y.sel (x.sel t.b))))
  (fun x y z u v w t => w.sel (v.sel (u.sel (z.sel (y.sel (x.sel t.c))))))
  (fun p t => p.get t.d) p
noncomputable def T.upA (f : V8.L2 (Option α) → V8.L2 (Option α)) (t : T α) : T α := T.rec (motive := fun _ => T α) (fun a b c d => ⟨f a, b, c, d⟩) t
noncomputable def T.upB (f : V8.L4 (Option α) → V8.L4 (Option α)) (t : T α) : T α := T.rec (motive := fun _ => T α) (fun a b c d => ⟨a, f b, c, d⟩) t
noncomputable def T.upC (f : V8.L6 (Option α) → V8.L6 (Option α)) (t : T α) : T α := T.rec (motive := fun _ => T α) (fun a b c d => ⟨a, b, f c, d⟩) t
noncomputable def T.upD (f : Bin α → Bin α) (t : T α) : T α := T.rec (motive := fun _ => T α) (fun a b c d => ⟨a, b, c, f d⟩) t
noncomputable def Pos.set (x : Option α) (p : Pos) : T α → T α := Pos.rec (motive := fun _ => T α → T α)
  (fun a b => T.upA (a.upd (b.upd fun _ => x)))
  (fun a b c d => T.upB (a.upd (b.upd (c.upd (d.upd fun _ => x)))))
  (fun a b c d e f => T.upC (a.upd (b.upd (c.upd (d.upd (e.upd (f.upd fun _ => x)))))))
  (fun p => T.upD (p.set x)) p
/-- The same as closures: what the kernel runs. -/
structure SelF (α : Type) where
  (sel : V8 α → α) (up : (α → α) → V8 α → V8 α)
noncomputable def selOf (α : Type) (d : D8) : SelF α := D8.rec ⟨V8.c0, V8.up0⟩ ⟨V8.c1, V8.up1⟩ ⟨V8.c2, V8.up2⟩ ⟨V8.c3, V8.up3⟩ ⟨V8.c4, V8.up4⟩ ⟨V8.c5, V8.up5⟩ ⟨V8.c6, V8.up6⟩ ⟨V8.c7, V8.up7⟩ d
structure PosF (α : Type) where
  (get : T α → Option α) (set : Option α → T α → T α)
noncomputable def posA (s1 : SelF (V8 (Option α))) (s0 : SelF (Option α)) : PosF α := ⟨fun t => s0.sel (s1.sel t.a), fun x => T.upA (s1.up (s0.up fun _ => x))⟩
noncomputable def posB (s3 : SelF (V8 (V8 (V8 (Option α))))) (s2 : SelF (V8 (V8 (Option α)))) (s1 : SelF (V8 (Option α))) (s0 : SelF (Option α)) : PosF α :=
  ⟨fun t => s0.sel (s1.sel (s2.sel (s3.sel t.b))), fun x => T.upB (s3.up (s2.up (s1.up (s0.up fun _ => x))))⟩
noncomputable def posC (s5 : SelF (V8 (V8 (V8 (V8 (V8 (Option α))))))) (s4 : SelF (V8 (V8 (V8 (V8 (Option α)))))) (s3 : SelF (V8 (V8 (V8 (Option α))))) (s2 : SelF (V8 (V8 (Option α)))) (s1 : SelF (V8 (Option α))) (s0 : SelF (Option α)) : PosF α :=
  ⟨fun t => s0.sel (s1.sel (s2.sel (s3.sel (s4.sel (s5.sel t.c))))), fun x => T.upC (s5.up (s4.up (s3.up (s2.up (s1.up (s0.up fun _ => x))))))⟩
noncomputable def posD (p : BPos) : PosF α := ⟨fun t => p.get t.d, fun x => T.upD (p.set x)⟩
noncomputable def posF (α : Type) (n : Nat) : PosF α :=
  Bool.rec (Bool.rec (Bool.rec (posD (BPos.aux (Nat.succ n) (Nat.succ n)))
    (posC (selOf _ (dig (Nat.div n (nat_lit 32768)))) (selOf _ (dig (Nat.mod (Nat.div n (nat_lit 4096)) (nat_lit 8)))) (selOf _ (dig (Nat.mod (Nat.div n (nat_lit 512)) (nat_lit 8)))) (selOf _ (dig (Nat.mod (Nat.div n (nat_lit 64)) (nat_lit 8)))) (selOf _ (dig (Nat.mod (Nat.div n (nat_lit 8)) (nat_lit 8)))) (selOf _ (dig (Nat.mod n (nat_lit 8))))) (Nat.blt n (nat_lit 262144)))
    (posB (selOf _ (dig (Nat.div n (nat_lit 512)))) (selOf _ (dig (Nat.mod (Nat.div n (nat_lit 64)) (nat_lit 8)))) (selOf _ (dig (Nat.mod (Nat.div n (nat_lit 8)) (nat_lit 8)))) (selOf _ (dig (Nat.mod n (nat_lit 8))))) (Nat.blt n (nat_lit 4096)))
    (posA (selOf _ (dig (Nat.div n (nat_lit 8)))) (selOf _ (dig (Nat.mod n (nat_lit 8))))) (Nat.blt n (nat_lit 64))
/-- The same, the number made plain first. -/
noncomputable def posN (α : Type) (n : Nat) : PosF α := Nat.rec (posF α (nat_lit 0)) (fun m _ => posF α (Nat.succ m)) n
theorem posN_eq (α : Type) (n : Nat) : posN α n = posF α n := by cases n <;> rfl
noncomputable def T.get (t : T α) (i : Nat) : Option α := (posN α i).get t
noncomputable def T.set (t : T α) (i : Nat) (x : α) : T α := (posN α i).set (some x) t
noncomputable def T.del (t : T α) (i : Nat) : T α := (posN α i).set none t
theorem selOf_eq (d : D8) : selOf α d = ⟨d.sel, d.upd⟩ := by cases d <;> rfl
theorem posF_eq (n : Nat) : posF α n = ⟨(posOf n).get, fun x => (posOf n).set x⟩ := by
  unfold posF posOf
  cases Nat.blt n 64 with
  | true => simp only [selOf_eq]; rfl
  | false => cases Nat.blt n 4096 with
    | true => simp only [selOf_eq]; rfl
    | false => cases Nat.blt n 262144 with
      | true => simp only [selOf_eq]; rfl
      | false => rfl
end

/-- A family of places of a structure, each to be read and turned apart from the others. -/
structure Lawful {I S A : Type} (sel : I → S → A) (upd : I → (A → A) → S → S) : Prop where
  same : ∀ i f t, sel i (upd i f t) = f (sel i t)
  ne : ∀ i j f t, i ≠ j → sel j (upd i f t) = sel j t
  again : ∀ i f g t, upd i f (upd i g t) = upd i (fun x => f (g x)) t
  comm : ∀ i j f g t, i ≠ j → upd i f (upd j g t) = upd j g (upd i f t)
theorem D8.lawful {α : Type} : Lawful (D8.sel (α := α)) (D8.upd (α := α)) where
  same := fun i f t => by cases i <;> rfl
  ne := fun i j f t h => by cases i <;> cases j <;> first | rfl | exact absurd rfl h
  again := fun i f g t => by cases i <;> rfl
  comm := fun i j f g t h => by cases i <;> cases j <;> first | rfl | exact absurd rfl h
theorem Lawful.comp {I J S A B : Type} {s1 : I → S → A} {u1 : I → (A → A) → S → S} {s2 : J → A → B} {u2 : J → (B → B) → A → A} (l1 : Lawful s1 u1) (l2 : Lawful s2 u2) :
    Lawful (fun (p : I × J) t => s2 p.2 (s1 p.1 t)) (fun p f => u1 p.1 (u2 p.2 f)) where
  same := fun p f t => by rw [l1.same, l2.same]
  ne := fun p q f t h => by
    by_cases e : p.1 = q.1
    · rw [← e, l1.same, l2.ne]; intro e2; exact h (Prod.ext e e2)
    · rw [l1.ne _ _ _ _ e]
  again := fun p f g t => by rw [l1.again]; congr 1; funext x; rw [l2.again]
  comm := fun p q f g t h => by
    by_cases e : p.1 = q.1
    · rw [← e, l1.again, l1.again]; congr 1; funext x; rw [l2.comm]; intro e2; exact h (Prod.ext e e2)
    · rw [l1.comm _ _ _ _ _ e]
abbrev D2 := D8 × D8
abbrev D4 := D2 × D2
abbrev D6 := D2 × D4
theorem lawful2 {α : Type} : Lawful (fun (p : D2) (t : V8.L2 α) => p.2.sel (p.1.sel t)) (fun p f => p.1.upd (p.2.upd f)) := D8.lawful.comp D8.lawful
theorem lawful4 {α : Type} : Lawful (fun (p : D4) (t : V8.L4 α) => p.2.2.sel (p.2.1.sel (p.1.2.sel (p.1.1.sel t)))) (fun p f => p.1.1.upd (p.1.2.upd (p.2.1.upd (p.2.2.upd f)))) := lawful2.comp lawful2
theorem lawful6 {α : Type} : Lawful (fun (p : D6) (t : V8.L6 α) => p.2.2.2.sel (p.2.2.1.sel (p.2.1.2.sel (p.2.1.1.sel (p.1.2.sel (p.1.1.sel t)))))) (fun p f => p.1.1.upd (p.1.2.upd (p.2.1.1.upd (p.2.1.2.upd (p.2.2.1.upd (p.2.2.2.upd f)))))) := lawful2.comp lawful4

section
variable {α : Type}
@[simp] theorem BPos.get_e (p : BPos) : p.get (.e : Bin α) = none := by
  induction p with
  | h => rfl
  | o p ih => exact ih
  | i p ih => exact ih
theorem BPos.get_set_same (p : BPos) (x : Option α) : ∀ t : Bin α, p.get (p.set x t) = x := by
  induction p with
  | h => intro t; rfl
  | o p ih => intro t; exact ih _
  | i p ih => intro t; exact ih _
theorem BPos.get_set_ne (p : BPos) (x : Option α) : ∀ (q : BPos) (t : Bin α), p ≠ q → q.get (p.set x t) = q.get t := by
  induction p with
  | h => intro q t h; cases q with
    | h => exact absurd rfl h
    | o q => rfl
    | i q => rfl
  | o p ih => intro q t h; cases q with
    | h => rfl
    | o q => exact ih q _ fun e => h (by rw [e])
    | i q => rfl
  | i p ih => intro q t h; cases q with
    | h => rfl
    | i q => exact ih q _ fun e => h (by rw [e])
    | o q => rfl
theorem BPos.set_comm (p : BPos) (x y : Option α) : ∀ (q : BPos) (t : Bin α), p ≠ q → p.set x (q.set y t) = q.set y (p.set x t) := by
  induction p with
  | h => intro q t h; cases q with
    | h => exact absurd rfl h
    | o q => rfl
    | i q => rfl
  | o p ih => intro q t h; cases q with
    | h => rfl
    | o q => simp only [BPos.set, Bin.left, Bin.val, Bin.right]; rw [ih q _ fun e => h (by rw [e])]
    | i q => rfl
  | i p ih => intro q t h; cases q with
    | h => rfl
    | i q => simp only [BPos.set, Bin.left, Bin.val, Bin.right]; rw [ih q _ fun e => h (by rw [e])]
    | o q => rfl
theorem BPos.set_set (p : BPos) (x y : Option α) : ∀ t : Bin α, p.set x (p.set y t) = p.set x t := by
  induction p with
  | h => intro t; rfl
  | o p ih => intro t; simp only [BPos.set, Bin.left, Bin.val, Bin.right]; rw [ih]
  | i p ih => intro t; simp only [BPos.set, Bin.left, Bin.val, Bin.right]; rw [ih]

theorem sel_all {β : Type} (d : D8) (x : β) : d.sel (V8.all x) = x := by cases d <;> rfl
@[simp] theorem Pos.get_e (p : Pos) : p.get (.e : T α) = none := by
  cases p with
  | a x y => show y.sel (x.sel (V8.all (V8.all none))) = none; rw [sel_all, sel_all]
  | b x y z u => show u.sel (z.sel (y.sel (x.sel (V8.all (V8.all (V8.all (V8.all none))))))) = none; rw [sel_all, sel_all, sel_all, sel_all]
  | c x y z u v w => show w.sel (v.sel (u.sel (z.sel (y.sel (x.sel (V8.all (V8.all (V8.all (V8.all (V8.all (V8.all none))))))))))) = none; rw [sel_all, sel_all, sel_all, sel_all, sel_all, sel_all]
  | d p => exact BPos.get_e p
theorem Pos.get_set_same (p : Pos) (x : Option α) (t : T α) : p.get (p.set x t) = x := by
  cases p with
  | a a b => exact lawful2.same (a, b) _ _
  | b a b c d => exact lawful4.same ((a, b), (c, d)) _ _
  | c a b c d e f => exact lawful6.same ((a, b), ((c, d), (e, f))) _ _
  | d p => exact BPos.get_set_same p x _
theorem Pos.get_set_ne (p : Pos) (x : Option α) (q : Pos) (t : T α) (h : p ≠ q) : q.get (p.set x t) = q.get t := by
  cases p with
  | a a b => cases q with
    | a a' b' => exact lawful2.ne (a, b) (a', b') _ _ fun e => h (by cases e; rfl)
    | _ => rfl
  | b a b c d => cases q with
    | b a' b' c' d' => exact lawful4.ne ((a, b), (c, d)) ((a', b'), (c', d')) _ _ fun e => h (by cases e; rfl)
    | _ => rfl
  | c a b c d e f => cases q with
    | c a' b' c' d' e' f' => exact lawful6.ne ((a, b), ((c, d), (e, f))) ((a', b'), ((c', d'), (e', f'))) _ _ fun e => h (by cases e; rfl)
    | _ => rfl
  | d p => cases q with
    | d q => exact BPos.get_set_ne p x q _ fun e => h (by rw [e])
    | _ => rfl
theorem T.ext' {a a' : V8.L2 (Option α)} {b b' : V8.L4 (Option α)} {c c' : V8.L6 (Option α)} {d d' : Bin α} (h1 : a = a') (h2 : b = b') (h3 : c = c') (h4 : d = d') : T.mk a b c d = T.mk a' b' c' d' := by rw [h1, h2, h3, h4]
theorem Pos.set_comm (p : Pos) (x y : Option α) (q : Pos) (t : T α) (h : p ≠ q) : p.set x (q.set y t) = q.set y (p.set x t) := by
  cases p with
  | a a b => cases q with
    | a a' b' => exact T.ext' (lawful2.comm (a, b) (a', b') _ _ _ fun e => h (by cases e; rfl)) rfl rfl rfl
    | _ => rfl
  | b a b c d => cases q with
    | b a' b' c' d' => exact T.ext' rfl (lawful4.comm ((a, b), (c, d)) ((a', b'), (c', d')) _ _ _ fun e => h (by cases e; rfl)) rfl rfl
    | _ => rfl
  | c a b c d e f => cases q with
    | c a' b' c' d' e' f' => exact T.ext' rfl rfl (lawful6.comm ((a, b), ((c, d), (e, f))) ((a', b'), ((c', d'), (e', f'))) _ _ _ fun e => h (by cases e; rfl)) rfl
    | _ => rfl
  | d p => cases q with
    | d q => exact T.ext' rfl rfl rfl (BPos.set_comm p x y q _ fun e => h (by rw [e]))
    | _ => rfl
theorem Pos.set_set (p : Pos) (x y : Option α) (t : T α) : p.set x (p.set y t) = p.set x t := by
  cases p with
  | a a b => exact T.ext' (lawful2.again (a, b) _ _ _) rfl rfl rfl
  | b a b c d => exact T.ext' rfl (lawful4.again ((a, b), (c, d)) _ _ _) rfl rfl
  | c a b c d e f => exact T.ext' rfl rfl (lawful6.again ((a, b), ((c, d), (e, f))) _ _ _) rfl
  | d p => exact T.ext' rfl rfl rfl (BPos.set_set p x y _)
end

def D8.toNat : D8 → Nat
  | .d0 => 0 | .d1 => 1 | .d2 => 2 | .d3 => 3 | .d4 => 4 | .d5 => 5 | .d6 => 6 | .d7 => 7
theorem dig_toNat {n : Nat} (h : n < 8) : (dig n).toNat = n := by
  have : n = 0 ∨ n = 1 ∨ n = 2 ∨ n = 3 ∨ n = 4 ∨ n = 5 ∨ n = 6 ∨ n = 7 := by omega
  rcases this with rfl | rfl | rfl | rfl | rfl | rfl | rfl | rfl <;> rfl
def BPos.toNat : BPos → Nat
  | .h => 1
  | .o p => 2 * p.toNat
  | .i p => 2 * p.toNat + 1
theorem BPos.toNat_aux : ∀ (f n : Nat), 1 ≤ n → n ≤ f → (BPos.aux f n).toNat = n
  | 0, n, h1, h2 => by omega
  | f + 1, n, h1, h2 => by
    unfold BPos.aux
    by_cases h : n ≤ 1
    · have : n = 1 := by omega
      subst this
      rfl
    · have hb : Nat.ble n 1 = false := by
        cases hb : Nat.ble n 1
        · rfl
        · exact absurd (Nat.le_of_ble_eq_true hb) h
      rw [hb, cond_false]
      cases he : Nat.beq (n % 2) 0
      · have : n % 2 ≠ 0 := fun e => by rw [e] at he; cases he
        simp only [cond_false, BPos.toNat]
        rw [BPos.toNat_aux f (n / 2) (by omega) (by omega)]
        omega
      · have : n % 2 = 0 := Nat.eq_of_beq_eq_true he
        simp only [cond_true, BPos.toNat]
        rw [BPos.toNat_aux f (n / 2) (by omega) (by omega)]
        omega
def Pos.toNat : Pos → Nat
  | .a x y => 8 * x.toNat + y.toNat
  | .b x y z u => 512 * x.toNat + 64 * y.toNat + 8 * z.toNat + u.toNat
  | .c x y z u v w => 32768 * x.toNat + 4096 * y.toNat + 512 * z.toNat + 64 * u.toNat + 8 * v.toNat + w.toNat
  | .d p => p.toNat - 1
theorem blt_false {a b : Nat} (h : Nat.blt a b = false) : b ≤ a := by
  have := (Nat.blt_eq (x := a) (y := b)); rw [h] at this; simp at this; exact this
theorem blt_true {a b : Nat} (h : Nat.blt a b = true) : a < b := by
  have := (Nat.blt_eq (x := a) (y := b)); rw [h] at this; simpa using this
theorem posOf_toNat (n : Nat) : (posOf n).toNat = n := by
  unfold posOf
  cases h1 : Nat.blt n 64 with
  | true =>
    have := blt_true h1
    show 8 * (dig (n / 8)).toNat + (dig (n % 8)).toNat = n
    rw [dig_toNat (by omega), dig_toNat (by omega)]; omega
  | false => cases h2 : Nat.blt n 4096 with
    | true =>
      have := blt_true h2
      show 512 * (dig (n / 512)).toNat + 64 * (dig (n / 64 % 8)).toNat + 8 * (dig (n / 8 % 8)).toNat + (dig (n % 8)).toNat = n
      rw [dig_toNat (by omega), dig_toNat (by omega), dig_toNat (by omega), dig_toNat (by omega)]; omega
    | false => cases h3 : Nat.blt n 262144 with
      | true =>
        have := blt_true h3
        show 32768 * (dig (n / 32768)).toNat + 4096 * (dig (n / 4096 % 8)).toNat + 512 * (dig (n / 512 % 8)).toNat + 64 * (dig (n / 64 % 8)).toNat + 8 * (dig (n / 8 % 8)).toNat + (dig (n % 8)).toNat = n
        rw [dig_toNat (by omega), dig_toNat (by omega), dig_toNat (by omega), dig_toNat (by omega), dig_toNat (by omega), dig_toNat (by omega)]; omega
      | false =>
        show (BPos.aux (n + 1) (n + 1)).toNat - 1 = n
        rw [BPos.toNat_aux _ _ (by omega) (by omega)]; omega
theorem posOf_inj {i j : Nat} (h : posOf i = posOf j) : i = j := by
  rw [← posOf_toNat i, ← posOf_toNat j, h]

section
variable {α : Type}
theorem T.get_pos (t : T α) (i : Nat) : t.get i = (posOf i).get t := by unfold T.get; rw [posN_eq, posF_eq]
theorem T.set_pos (t : T α) (i : Nat) (x : α) : t.set i x = (posOf i).set (some x) t := by unfold T.set; rw [posN_eq, posF_eq]
theorem T.del_pos (t : T α) (i : Nat) : t.del i = (posOf i).set none t := by unfold T.del; rw [posN_eq, posF_eq]
@[simp] theorem T.get_e (i : Nat) : (T.e : T α).get i = none := by rw [T.get_pos]; exact Pos.get_e _
theorem T.get_set (t : T α) (i j : Nat) (x : α) : (t.set i x).get j = if i = j then some x else t.get j := by
  rw [T.get_pos, T.set_pos, T.get_pos]
  split
  · rename_i h; subst h; exact Pos.get_set_same _ _ _
  · rename_i h; exact Pos.get_set_ne _ _ _ _ fun e => h (posOf_inj e)
theorem T.get_del (t : T α) (i j : Nat) : (t.del i).get j = if i = j then none else t.get j := by
  rw [T.get_pos, T.del_pos, T.get_pos]
  split
  · rename_i h; subst h; exact Pos.get_set_same _ _ _
  · rename_i h; exact Pos.get_set_ne _ _ _ _ fun e => h (posOf_inj e)
theorem T.set_comm (t : T α) (i j : Nat) (x y : α) (h : i ≠ j) : (t.set i x).set j y = (t.set j y).set i x := by
  simp only [T.set_pos]
  exact Pos.set_comm _ _ _ _ _ fun e => h (posOf_inj e).symm
theorem T.set_set (t : T α) (i : Nat) (x y : α) : (t.set i x).set i y = t.set i y := by
  simp only [T.set_pos]; exact Pos.set_set _ _ _ _
end
end Go.Ae
