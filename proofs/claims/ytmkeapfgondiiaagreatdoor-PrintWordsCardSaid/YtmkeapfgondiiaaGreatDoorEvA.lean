/- Tries of eight ways: what the evaluator's frames, rows and memory are kept in. -/
import GoSem.Step
namespace Go.Ae
structure V8 (α : Type) where
  (c0 c1 c2 c3 c4 c5 c6 c7 : α)
inductive D8 where
  | d0 | d1 | d2 | d3 | d4 | d5 | d6 | d7
section
variable {α : Type}
noncomputable def V8.up0 (f : α → α) (t : V8 α) : V8 α := V8.rec (motive := fun _ => V8 α) (fun c0 c1 c2 c3 c4 c5 c6 c7 => ⟨f c0, c1, c2, c3, c4, c5, c6, c7⟩) t
noncomputable def V8.up1 (f : α → α) (t : V8 α) : V8 α := V8.rec (motive := fun _ => V8 α) (fun c0 c1 c2 c3 c4 c5 c6 c7 => ⟨c0, f c1, c2, c3, c4, c5, c6, c7⟩) t
noncomputable def V8.up2 (f : α → α) (t : V8 α) : V8 α := V8.rec (motive := fun _ => V8 α) (fun c0 c1 c2 c3 c4 c5 c6 c7 => ⟨c0, c1, f c2, c3, c4, c5, c6, c7⟩) t
noncomputable def V8.up3 (f : α → α) (t : V8 α) : V8 α := V8.rec (motive := fun _ => V8 α) (fun c0 c1 c2 c3 c4 c5 c6 c7 => ⟨c0, c1, c2, f c3, c4, c5, c6, c7⟩) t
noncomputable def V8.up4 (f : α → α) (t : V8 α) : V8 α := V8.rec (motive := fun _ => V8 α) (fun c0 c1 c2 c3 c4 c5 c6 c7 => ⟨c0, c1, c2, c3, f c4, c5, c6, c7⟩) t
noncomputable def V8.up5 (f : α → α) (t : V8 α) : V8 α := V8.rec (motive := fun _ => V8 α) (fun c0 c1 c2 c3 c4 c5 c6 c7 => ⟨c0, c1, c2, c3, c4, f c5, c6, c7⟩) t
noncomputable def V8.up6 (f : α → α) (t : V8 α) : V8 α := V8.rec (motive := fun _ => V8 α) (fun c0 c1 c2 c3 c4 c5 c6 c7 => ⟨c0, c1, c2, c3, c4, c5, f c6, c7⟩) t
noncomputable def V8.up7 (f : α → α) (t : V8 α) : V8 α := V8.rec (motive := fun _ => V8 α) (fun c0 c1 c2 c3 c4 c5 c6 c7 => ⟨c0, c1, c2, c3, c4, c5, c6, f c7⟩) t
noncomputable def D8.sel (d : D8) : V8 α → α := D8.rec (motive := fun _ => V8 α → α) V8.c0 V8.c1 V8.c2 V8.c3 V8.c4 V8.c5 V8.c6 V8.c7 d
noncomputable def D8.upd (d : D8) : (α → α) → V8 α → V8 α := D8.rec (motive := fun _ => (α → α) → V8 α → V8 α) V8.up0 V8.up1 V8.up2 V8.up3 V8.up4 V8.up5 V8.up6 V8.up7 d
def V8.all (x : α) : V8 α := ⟨x, x, x, x, x, x, x, x⟩
end
abbrev V8.L2 (α : Type) := V8 (V8 α)
abbrev V8.L4 (α : Type) := V8.L2 (V8.L2 α)
abbrev V8.L6 (α : Type) := V8.L2 (V8.L4 α)

inductive BPos where
  | h
  | o (p : BPos)
  | i (p : BPos)
def BPos.aux : Nat → Nat → BPos
  | 0, _ => .h
  | f + 1, n => bif Nat.ble n 1 then .h else bif Nat.beq (n % 2) 0 then .o (BPos.aux f (n / 2)) else .i (BPos.aux f (n / 2))
inductive Bin (α : Type) where
  | e
  | n (l : Bin α) (v : Option α) (r : Bin α)
namespace Bin
variable {α : Type}
def left : Bin α → Bin α
  | .e => .e
  | .n l _ _ => l
def right : Bin α → Bin α
  | .e => .e
  | .n _ _ r => r
def val : Bin α → Option α
  | .e => none
  | .n _ v _ => v
end Bin
def BPos.get {α : Type} : BPos → Bin α → Option α
  | .h => fun t => t.val
  | .o p => fun t => p.get t.left
  | .i p => fun t => p.get t.right
def BPos.set {α : Type} (x : Option α) : BPos → Bin α → Bin α
  | .h => fun t => .n t.left x t.right
  | .o p => fun t => .n (p.set x t.left) t.val t.right
  | .i p => fun t => .n t.left t.val (p.set x t.right)

structure T (α : Type) where
  (a : V8.L2 (Option α)) (b : V8.L4 (Option α)) (c : V8.L6 (Option α)) (d : Bin α)
def T.e {α : Type} : T α := ⟨.all (.all none), .all (.all (.all (.all none))), .all (.all (.all (.all (.all (.all none))))), .e⟩

inductive Pos where
  | a (x y : D8)
  | b (x y z u : D8)
  | c (x y z u v w : D8)
  | d (p : BPos)
noncomputable def dig (n : Nat) : D8 := Bool.rec (Bool.rec (Bool.rec .d7 .d6 (Nat.blt n (nat_lit 7))) (Bool.rec .d5 .d4 (Nat.blt n (nat_lit 5))) (Nat.blt n (nat_lit 6))) (Bool.rec (Bool.rec .d3 .d2 (Nat.blt n (nat_lit 3))) (Bool.rec .d1 .d0 (Nat.blt n (nat_lit 1))) (Nat.blt n (nat_lit 2))) (Nat.blt n (nat_lit 4))
noncomputable def posOf (n : Nat) : Pos :=
  Bool.rec (Bool.rec (Bool.rec (.d (BPos.aux (Nat.succ n) (Nat.succ n)))
    (.c (dig (Nat.div n 32768)) (dig (Nat.mod (Nat.div n 4096) 8)) (dig (Nat.mod (Nat.div n 512) 8)) (dig (Nat.mod (Nat.div n 64) 8)) (dig (Nat.mod (Nat.div n 8) 8)) (dig (Nat.mod n 8))) (Nat.blt n 262144))
    (.b (dig (Nat.div n 512)) (dig (Nat.mod (Nat.div n 64) 8)) (dig (Nat.mod (Nat.div n 8) 8)) (dig (Nat.mod n 8))) (Nat.blt n 4096))
    (.a (dig (Nat.div n 8)) (dig (Nat.mod n 8))) (Nat.blt n 64)
section
variable {α : Type}
noncomputable def Pos.get (p : Pos) : T α → Option α := Pos.rec (motive := fun _ => T α → Option α)
  (fun x y t => y.sel (x.sel t.a))
  (fun x y z u t => u.sel (z.sel (y.sel (x.sel t.b))))
  (fun x y z u v w t => w.sel (v.sel (u.sel (z.sel (y.sel (x.sel t.c))))))
  (fun p t => p.get t.d) p
noncomputable def T.upA (f : V8.L2 (Option α) → V8.L2 (Option α)) (t : T α) : T α := T.rec (motive := fun _ => T α) (fun a b c d => ⟨f a, b, c, d⟩) t
noncomputable def T.upB (f : V8.L4 (Option α) → V8.L4 (Option α)) (t : T α) : T α := T.rec (motive := fun _ => T α) (fun a b c d => ⟨a, f b, c, d⟩) t
noncomputable def T.upC (f : V8.L6 (Option α) → V8.L6 (Option α)) (t : T α) : T α := T.rec (motive := fun _ => T α) (fun a b c d => ⟨a, b, f c, d⟩) t
noncomputable def T.upD (f : Bin α → Bin α) (t : T α) : T α := T.rec (motive := fun _ => T α) (fun a b c d => ⟨a, b, c, f d⟩) t
noncomputable def Pos.set (x : Option α) (p : Pos) : T α → T α := Pos.rec (motive := fun _ => T α → T α)
  (fun a b => T.upA (a.upd (b.upd fun _ => x)))
  (fun a b c d => T.upB (a.upd (b.upd (c.upd (d.upd fun _ => x)))))
  (fun a b c d e f => T.upC (a.upd (b.upd (c.upd (d.upd (e.upd (f.upd fun _ => x)))))))
  (fun p => T.upD (p.set x)) p
/-- The same as closures: what the kernel runs. -/
structure SelF (α : Type) where
  (sel : V8 α → α) (up : (α → α) → V8 α → V8 α)
noncomputable def selOf (α : Type) (d : D8) : SelF α := D8.rec ⟨V8.c0, V8.up0⟩ ⟨V8.c1, V8.up1⟩ ⟨V8.c2, V8.up2⟩ ⟨V8.c3, V8.up3⟩ ⟨V8.c4, V8.up4⟩ ⟨V8.c5, V8.up5⟩ ⟨V8.c6, V8.up6⟩ ⟨V8.c7, V8.up7⟩ d
structure PosF (α : Type) where
  (get : T α → Option α) (set : Option α → T α → T α)
noncomputable def posA (s1 : SelF (V8 (Option α))) (s0 : SelF (Option α)) : PosF α := ⟨fun t => s0.sel (s1.sel t.a), fun x => T.upA (s1.up (s0.up fun _ => x))⟩
noncomputable def posB (s3 : SelF (V8 (V8 (V8 (Option α))))) (s2 : SelF (V8 (V8 (Option α)))) (s1 : SelF (V8 (Option α))) (s0 : SelF (Option α)) : PosF α :=
  ⟨fun t => s0.sel (s1.sel (s2.sel (s3.sel t.b))), fun x => T.upB (s3.up (s2.up (s1.up (s0.up fun _ => x))))⟩
noncomputable def posC (s5 : SelF (V8 (V8 (V8 (V8 (V8 (Option α))))))) (s4 : SelF (V8 (V8 (V8 (V8 (Option α)))))) (s3 : SelF (V8 (V8 (V8 (Option α))))) (s2 : SelF (V8 (V8 (Option α)))) (s1 : SelF (V8 (Option α))) (s0 : SelF (Option α)) : PosF α :=
  ⟨fun t => s0.sel (s1.sel (s2.sel (s3.sel (s4.sel (s5.sel t.c))))), fun x => T.upC (s5.up (s4.up (s3.up (s2.up (s1.up (s0.up fun _ => x))))))⟩
noncomputable def posD (p : BPos) : PosF α := ⟨fun t => p.get t.d, fun x => T.upD (p.set x)⟩
noncomputable def posF (α : Type) (n : Nat) : PosF α :=
  Bool.rec (Bool.rec (Bool.rec (posD (BPos.aux (Nat.succ n) (Nat.succ n)))
    (posC (selOf _ (dig (Nat.div n (nat_lit 32768)))) (selOf _ (dig (Nat.mod (Nat.div n (nat_lit 4096)) (nat_lit 8)))) (selOf _ (dig (Nat.mod (Nat.div n (nat_lit 512)) (nat_lit 8)))) (selOf _ (dig (Nat.mod (Nat.div n (nat_lit 64)) (nat_lit 8)))) (selOf _ (dig (Nat.mod (Nat.div n (nat_lit 8)) (nat_lit 8)))) (selOf _ (dig (Nat.mod n (nat_lit 8))))) (Nat.blt n (nat_lit 262144)))
    (posB (selOf _ (dig (Nat.div n (nat_lit 512)))) (selOf _ (dig (Nat.mod (Nat.div n (nat_lit 64)) (nat_lit 8)))) (selOf _ (dig (Nat.mod (Nat.div n (nat_lit 8)) (nat_lit 8)))) (selOf _ (dig (Nat.mod n (nat_lit 8))))) (Nat.blt n (nat_lit 4096)))
    (posA (selOf _ (dig (Nat.div n (nat_lit 8)))) (selOf _ (dig (Nat.mod n (nat_lit 8))))) (Nat.blt n (nat_lit 64))
/-- The same, the number made plain first. -/
noncomputable def posN (α : Type) (n : Nat) : PosF α := Nat.rec (posF α (nat_lit 0)) (fun m _ => posF α (Nat.succ m)) n
theorem posN_eq (α : Type) (n : Nat) : posN α n = posF α n := by cases n <;> rfl
noncomputable def T.get (t : T α) (i : Nat) : Option α := (posN α i).get t
noncomputable def T.set (t : T α) (i : Nat) (x : α) : T α := (posN α i).set (some x) t
noncomputable def T.del (t : T α) (i : Nat) : T α := (posN α i).set none t
theorem selOf_eq (d : D8) : selOf α d = ⟨d.sel, d.upd⟩ := by cases d <;> rfl
theorem posF_eq (n : Nat) : posF α n = ⟨(posOf n).get, fun x => (posOf n).set x⟩ := by
  unfold posF posOf
  cases Nat.blt n 64 with
  | true => simp only [selOf_eq]; rfl
  | false => cases Nat.blt n 4096 with
    | true => simp only [selOf_eq]; rfl
    | false => cases Nat.blt n 262144 with
      | true => simp only [selOf_eq]; rfl
      | false => rfl
end

/-- A family of places of a structure, each to be read and turned apart from the others. -/
structure Lawful {I S A : Type} (sel : I → S → A) (upd : I → (A → A) → S → S) : Prop where
  same : ∀ i f t, sel i (upd i f t) = f (sel i t)
  ne : ∀ i j f t, i ≠ j → sel j (upd i f t) = sel j t
  again : ∀ i f g t, upd i f (upd i g t) = upd i (fun x => f (g x)) t
  comm : ∀ i j f g t, i ≠ j → upd i f (upd j g t) = upd j g (upd i f t)
theorem D8.lawful {α : Type} : Lawful (D8.sel (α := α)) (D8.upd (α := α)) where
  same := fun i f t => by cases i <;> rfl
  ne := fun i j f t h => by cases i <;> cases j <;> first | rfl | exact absurd rfl h
  again := fun i f g t => by cases i <;> rfl
  comm := fun i j f g t h => by cases i <;> cases j <;> first | rfl | exact absurd rfl h
theorem Lawful.comp {I J S A B : Type} {s1 : I → S → A} {u1 : I → (A → A) → S → S} {s2 : J → A → B} {u2 : J → (B → B) → A → A} (l1 : Lawful s1 u1) (l2 : Lawful s2 u2) :
    Lawful (fun (p : I × J) t => s2 p.2 (s1 p.1 t)) (fun p f => u1 p.1 (u2 p.2 f)) where
  same := fun p f t => by rw [l1.same, l2.same]
  ne := fun p q f t h => by
    by_cases e : p.1 = q.1
    · rw [← e, l1.same, l2.ne]; intro e2; exact h (Prod.ext e e2)
    · rw [l1.ne _ _ _ _ e]
  again := fun p f g t => by rw [l1.again]; congr 1; funext x; rw [l2.again]
  comm := fun p q f g t h => by
    by_cases e : p.1 = q.1
    · rw [← e, l1.again, l1.again]; congr 1; funext x; rw [l2.comm]; intro e2; exact h (Prod.ext e e2)
    · rw [l1.comm _ _ _ _ _ e]
abbrev D2 := D8 × D8
abbrev D4 := D2 × D2
abbrev D6 := D2 × D4
theorem lawful2 {α : Type} : Lawful (fun (p : D2) (t : V8.L2 α) => p.2.sel (p.1.sel t)) (fun p f => p.1.upd (p.2.upd f)) := D8.lawful.comp D8.lawful
theorem lawful4 {α : Type} : Lawful (fun (p : D4) (t : V8.L4 α) => p.2.2.sel (p.2.1.sel (p.1.2.sel (p.1.1.sel t)))) (fun p f => p.1.1.upd (p.1.2.upd (p.2.1.upd (p.2.2.upd f)))) := lawful2.comp lawful2
theorem lawful6 {α : Type} : Lawful (fun (p : D6) (t : V8.L6 α) => p.2.2.2.sel (p.2.2.1.sel (p.2.1.2.sel (p.2.1.1.sel (p.1.2.sel (p.1.1.sel t)))))) (fun p f => p.1.1.upd (p.1.2.upd (p.2.1.1.upd (p.2.1.2.upd (p.2.2.1.upd (p.2.2.2.upd f)))))) := lawful2.comp lawful4

section
variable {α : Type}
@[simp] theorem BPos.get_e (p : BPos) : p.get (.e : Bin α) = none := by
  induction p with
  | h => rfl
  | o p ih => exact ih
  | i p ih => exact ih
theorem BPos.get_set_same (p : BPos) (x : Option α) : ∀ t : Bin α, p.get (p.set x t) = x := by
  induction p with
  | h => intro t; rfl
  | o p ih => intro t; exact ih _
  | i p ih => intro t; exact ih _
theorem BPos.get_set_ne (p : BPos) (x : Option α) : ∀ (q : BPos) (t : Bin α), p ≠ q → q.get (p.set x t) = q.get t := by
  induction p with
  | h => intro q t h; cases q with
    | h => exact absurd rfl h
    | o q => rfl
    | i q => rfl
  | o p ih => intro q t h; cases q with
    | h => rfl
    | o q => exact ih q _ fun e => h (by rw [e])
    | i q => rfl
  | i p ih => intro q t h; cases q with
    | h => rfl
    | i q => exact ih q _ fun e => h (by rw [e])
    | o q => rfl
theorem BPos.set_comm (p : BPos) (x y : Option α) : ∀ (q : BPos) (t : Bin α), p ≠ q → p.set x (q.set y t) = q.set y (p.set x t) := by
  induction p with
  | h => intro q t h; cases q with
    | h => exact absurd rfl h
    | o q => rfl
    | i q => rfl
  | o p ih => intro q t h; cases q with
    | h => rfl
    | o q => simp only [BPos.set, Bin.left, Bin.val, Bin.right]; rw [ih q _ fun e => h (by rw [e])]
    | i q => rfl
  | i p ih => intro q t h; cases q with
    | h => rfl
    | i q => simp only [BPos.set, Bin.left, Bin.val, Bin.right]; rw [ih q _ fun e => h (by rw [e])]
    | o q => rfl
theorem BPos.set_set (p : BPos) (x y : Option α) : ∀ t : Bin α, p.set x (p.set y t) = p.set x t := by
  induction p with
  | h => intro t; rfl
  | o p ih => intro t; simp only [BPos.set, Bin.left, Bin.val, Bin.right]; rw [ih]
  | i p ih => intro t; simp only [BPos.set, Bin.left, Bin.val, Bin.right]; rw [ih]

theorem sel_all {β : Type} (d : D8) (x : β) : d.sel (V8.all x) = x := by cases d <;> rfl
@[simp] theorem Pos.get_e (p : Pos) : p.get (.e : T α) = none := by
  cases p with
  | a x y => show y.sel (x.sel (V8.all (V8.all none))) = none; rw [sel_all, sel_all]
  | b x y z u => show u.sel (z.sel (y.sel (x.sel (V8.all (V8.all (V8.all (V8.all none))))))) = none; rw [sel_all, sel_all, sel_all, sel_all]
  | c x y z u v w => show w.sel (v.sel (u.sel (z.sel (y.sel (x.sel (V8.all (V8.all (V8.all (V8.all (V8.all (V8.all none))))))))))) = none; rw [sel_all, sel_all, sel_all, sel_all, sel_all, sel_all]
  | d p => exact BPos.get_e p
theorem Pos.get_set_same (p : Pos) (x : Option α) (t : T α) : p.get (p.set x t) = x := by
  cases p with
  | a a b => exact lawful2.same (a, b) _ _
  | b a b c d => exact lawful4.same ((a, b), (c, d)) _ _
  | c a b c d e f => exact lawful6.same ((a, b), ((c, d), (e, f))) _ _
  | d p => exact BPos.get_set_same p x _
theorem Pos.get_set_ne (p : Pos) (x : Option α) (q : Pos) (t : T α) (h : p ≠ q) : q.get (p.set x t) = q.get t := by
  cases p with
  | a a b => cases q with
    | a a' b' => exact lawful2.ne (a, b) (a', b') _ _ fun e => h (by cases e; rfl)
    | _ => rfl
  | b a b c d => cases q with
    | b a' b' c' d' => exact lawful4.ne ((a, b), (c, d)) ((a', b'), (c', d')) _ _ fun e => h (by cases e; rfl)
    | _ => rfl
  | c a b c d e f => cases q with
    | c a' b' c' d' e' f' => exact lawful6.ne ((a, b), ((c, d), (e, f))) ((a', b'), ((c', d'), (e', f'))) _ _ fun e => h (by cases e; rfl)
    | _ => rfl
  | d p => cases q with
    | d q => exact BPos.get_set_ne p x q _ fun e => h (by rw [e])
    | _ => rfl
theorem T.ext' {a a' : V8.L2 (Option α)} {b b' : V8.L4 (Option α)} {c c' : V8.L6 (Option α)} {d d' : Bin α} (h1 : a = a') (h2 : b = b') (h3 : c = c') (h4 : d = d') : T.mk a b c d = T.mk a' b' c' d' := by rw [h1, h2, h3, h4]
theorem Pos.set_comm (p : Pos) (x y : Option α) (q : Pos) (t : T α) (h : p ≠ q) : p.set x (q.set y t) = q.set y (p.set x t) := by
  cases p with
  | a a b => cases q with
    | a a' b' => exact T.ext' (lawful2.comm (a, b) (a', b') _ _ _ fun e => h (by cases e; rfl)) rfl rfl rfl
    | _ => rfl
  | b a b c d => cases q with
    | b a' b' c' d' => exact T.ext' rfl (lawful4.comm ((a, b), (c, d)) ((a', b'), (c', d')) _ _ _ fun e => h (by cases e; rfl)) rfl rfl
    | _ => rfl
  | c a b c d e f => cases q with
    | c a' b' c' d' e' f' => exact T.ext' rfl rfl (lawful6.comm ((a, b), ((c, d), (e, f))) ((a', b'), ((c', d'), (e', f'))) _ _ _ fun e => h (by cases e; rfl)) rfl
    | _ => rfl
  | d p => cases q with
    | d q => exact T.ext' rfl rfl rfl (BPos.set_comm p x y q _ fun e => h (by rw [e]))
    | _ => rfl
theorem Pos.set_set (p : Pos) (x y : Option α) (t : T α) : p.set x (p.set y t) = p.set x t := by
  cases p with
  | a a b => exact T.ext' (lawful2.again (a, b) _ _ _) rfl rfl rfl
  | b a b c d => exact T.ext' rfl (lawful4.again ((a, b), (c, d)) _ _ _) rfl rfl
  | c a b c d e f => exact T.ext' rfl rfl (lawful6.again ((a, b), ((c, d), (e, f))) _ _ _) rfl
  | d p => exact T.ext' rfl rfl rfl (BPos.set_set p x y _)
end

def D8.toNat : D8 → Nat
  | .d0 => 0 | .d1 => 1 | .d2 => 2 | .d3 => 3 | .d4 => 4 | .d5 => 5 | .d6 => 6 | .d7 => 7
theorem dig_toNat {n : Nat} (h : n < 8) : (dig n).toNat = n := by
  have : n = 0 ∨ n = 1 ∨ n = 2 ∨ n = 3 ∨ n = 4 ∨ n = 5 ∨ n = 6 ∨ n = 7 := by omega
  rcases this with rfl | rfl | rfl | rfl | rfl | rfl | rfl | rfl <;> rfl
def BPos.toNat : BPos → Nat
  | .h => 1
  | .o p => 2 * p.toNat
  | .i p => 2 * p.toNat + 1
theorem BPos.toNat_aux : ∀ (f n : Nat), 1 ≤ n → n ≤ f → (BPos.aux f n).toNat = n
  | 0, n, h1, h2 => by omega
  | f + 1, n, h1, h2 => by
    unfold BPos.aux
    by_cases h : n ≤ 1
    · have : n = 1 := by omega
      subst this
      rfl
    · have hb : Nat.ble n 1 = false := by
        cases hb : Nat.ble n 1
        · rfl
        · exact absurd (Nat.le_of_ble_eq_true hb) h
      rw [hb, cond_false]
      cases he : Nat.beq (n % 2) 0
      · have : n % 2 ≠ 0 := fun e => by rw [e] at he; cases he
        simp only [cond_false, BPos.toNat]
        rw [BPos.toNat_aux f (n / 2) (by omega) (by omega)]
        omega
      · have : n % 2 = 0 := Nat.eq_of_beq_eq_true he
        simp only [cond_true, BPos.toNat]
        rw [BPos.toNat_aux f (n / 2) (by omega) (by omega)]
        omega
def Pos.toNat : Pos → Nat
  | .a x y => 8 * x.toNat + y.toNat
  | .b x y z u => 512 * x.toNat + 64 * y.toNat + 8 * z.toNat + u.toNat
  | .c x y z u v w => 32768 * x.toNat + 4096 * y.toNat + 512 * z.toNat + 64 * u.toNat + 8 * v.toNat + w.toNat
  | .d p => p.toNat - 1
theorem blt_false {a b : Nat} (h : Nat.blt a b = false) : b ≤ a := by
  have := (Nat.blt_eq (x := a) (y := b)); rw [h] at this; simp at this; exact this
theorem blt_true {a b : Nat} (h : Nat.blt a b = true) : a < b := by
  have := (Nat.blt_eq (x := a) (y := b)); rw [h] at this; simpa using this
theorem posOf_toNat (n : Nat) : (posOf n).toNat = n := by
  unfold posOf
  cases h1 : Nat.blt n 64 with
  | true =>
    have := blt_true h1
    show 8 * (dig (n / 8)).toNat + (dig (n % 8)).toNat = n
    rw [dig_toNat (by omega), dig_toNat (by omega)]; omega
  | false => cases h2 : Nat.blt n 4096 with
    | true =>
      have := blt_true h2
      show 512 * (dig (n / 512)).toNat + 64 * (dig (n / 64 % 8)).toNat + 8 * (dig (n / 8 % 8)).toNat + (dig (n % 8)).toNat = n
      rw [dig_toNat (by omega), dig_toNat (by omega), dig_toNat (by omega), dig_toNat (by omega)]; omega
    | false => cases h3 : Nat.blt n 262144 with
      | true =>
        have := blt_true h3
        show 32768 * (dig (n / 32768)).toNat + 4096 * (dig (n / 4096 % 8)).toNat + 512 * (dig (n / 512 % 8)).toNat + 64 * (dig (n / 64 % 8)).toNat + 8 * (dig (n / 8 % 8)).toNat + (dig (n % 8)).toNat = n
        rw [dig_toNat (by omega), dig_toNat (by omega), dig_toNat (by omega), dig_toNat (by omega), dig_toNat (by omega), dig_toNat (by omega)]; omega
      | false =>
        show (BPos.aux (n + 1) (n + 1)).toNat - 1 = n
        rw [BPos.toNat_aux _ _ (by omega) (by omega)]; omega
theorem posOf_inj {i j : Nat} (h : posOf i = posOf j) : i = j := by
  rw [← posOf_toNat i, ← posOf_toNat j, h]

section
variable {α : Type}
theorem T.get_pos (t : T α) (i : Nat) : t.get i = (posOf i).get t := by unfold T.get; rw [posN_eq, posF_eq]
theorem T.set_pos (t : T α) (i : Nat) (x : α) : t.set i x = (posOf i).set (some x) t := by unfold T.set; rw [posN_eq, posF_eq]
theorem T.del_pos (t : T α) (i : Nat) : t.del i = (posOf i).set none t := by unfold T.del; rw [posN_eq, posF_eq]
@[simp] theorem T.get_e (i : Nat) : (T.e : T α).get i = none := by rw [T.get_pos]; exact Pos.get_e _
theorem T.get_set (t : T α) (i j : Nat) (x : α) : (t.set i x).get j = if i = j then some x else t.get j := by
  rw [T.get_pos, T.set_pos, T.get_pos]
  split
  · rename_i h; subst h; exact Pos.get_set_same _ _ _
  · rename_i h; exact Pos.get_set_ne _ _ _ _ fun e => h (posOf_inj e)
theorem T.get_del (t : T α) (i j : Nat) : (t.del i).get j = if i = j then none else t.get j := by
  rw [T.get_pos, T.del_pos, T.get_pos]
  split
  · rename_i h; subst h; exact Pos.get_set_same _ _ _
  · rename_i h; exact Pos.get_set_ne _ _ _ _ fun e => h (posOf_inj e)
theorem T.set_comm (t : T α) (i j : Nat) (x y : α) (h : i ≠ j) : (t.set i x).set j y = (t.set j y).set i x := by
  simp only [T.set_pos]
  exact Pos.set_comm _ _ _ _ _ fun e => h (posOf_inj e).symm
theorem T.set_set (t : T α) (i : Nat) (x y : α) : (t.set i x).set i y = t.set i y := by
  simp only [T.set_pos]; exact Pos.set_set _ _ _ _
end
end Go.Ae
/- A deterministic evaluator over an abstract memory for the program form, in plain Lean: what it answers is meant to be what every run of the model answers. -/
set_option linter.unusedVariables false
set_option linter.unusedSimpArgs false
namespace Go.Ae
open Go
noncomputable section

inductive AVal where
  | bool (b : Bool)
  | int (k : IntKind) (n : Int)
  | str (len code : Nat)
  | ptr (b off : Nat)
  | gptr (g off : Nat)
  | nilptr
  | slice (b off len cap : Nat) (exact : Bool) (size : Nat)
  | nilslice
  | map (b : Nat)
  | nilmap
  | func (fn : Fn) (first captured : List AVal)
  | nilfunc
  | iface (t : TypeId) (v : AVal)
  | niliface
  | agg (cs : List AVal)
  | tuple (vs : List AVal)
  | opq (i : Nat)
  deriving Inhabited

def AVal.undef : AVal := .tuple []
def AVal.cells : AVal → List AVal
  | .agg cs => cs
  | v => [v]

structure Ent where
  key : AVal
  val : AVal
  born : Nat

inductive Blk where
  | cells (e : TypeId) (ext fz : Nat) (t : T AVal)
  | map (es : List Ent) (clock : Nat)
  | siter (len code pos : Nat)
  | miter (m : Option Nat) (since : Nat) (seen : List Nat) (last : Nat)

structure Hp where
  t : T Blk
  next : Nat
def Hp.empty : Hp := ⟨.e, 0⟩
def Hp.get (h : Hp) (b : Nat) : Option Blk := h.t.get b
def Hp.put (h : Hp) (b : Nat) (x : Blk) : Hp := ⟨h.t.set b x, h.next⟩
def Hp.kill (h : Hp) (b : Nat) : Hp := ⟨h.t.del b, h.next⟩
def Hp.new (h : Hp) (x : Blk) : Hp := ⟨h.t.set h.next x, h.next + 1⟩

def codeOf : List UInt8 → Nat
  | [] => 0
  | b :: l => b.toNat + 256 * codeOf l
def decode : Nat → Nat → List UInt8
  | 0, _ => []
  | n + 1, c => UInt8.ofNat (c % 256) :: decode n (c / 256)
def AVal.ofBytes (s : ByteArray) : AVal := .str s.size (codeOf s.data.toList)
def byteAt (code i : Nat) : Nat := (code >>> (8 * i)) % 256
def cut (code l h : Nat) : Nat := (code >>> (8 * l)) % 2 ^ (8 * (h - l))

def isCell : Value → Bool
  | .agg _ | .tuple _ => false
  | _ => true
mutual
def ofConst : Nat → Value → Option AVal
  | 0, _ => none
  | _, .bool b => some (.bool b)
  | _, .int k n => some (.int k n)
  | _, .string s => some (.ofBytes s)
  | _, .pointer none => some .nilptr
  | _, .slice none 0 0 => some .nilslice
  | _, .map none => some .nilmap
  | _, .nilFunc => some .nilfunc
  | _, .nilIface => some .niliface
  | f + 1, .agg cs => bif cs.toList.all isCell then (ofConsts f cs.toList).map .agg else none
  | f + 1, .tuple cs => (ofConsts f cs.toList).map .tuple
  | f + 1, .iface t v => (ofConst f v).map (.iface t)
  | _, _ => none
def ofConsts : Nat → List Value → Option (List AVal)
  | 0, _ => none
  | _, [] => some []
  | f + 1, v :: l => do pure ((← ofConst f v) :: (← ofConsts f l))
end

def fitI (k : IntKind) (n : Int) : AVal := .int k (k.wrap n)

/-- Cells of a list into a trie from place i on. -/
def fillT : List AVal → Nat → T AVal → T AVal
  | [], _, t => t
  | c :: l, i, t => fillT l (i + 1) (t.set i c)
def readT (t : T AVal) : Nat → Nat → Option (List AVal)
  | 0, _ => some []
  | n + 1, i => match t.get i, readT t n (i + 1) with
    | some c, some l => some (c :: l)
    | _, _ => none

def splice : List AVal → Nat → List AVal → List AVal
  | cs, 0, [] => cs
  | _ :: cs, 0, x :: xs => x :: splice cs 0 xs
  | [], _, _ => []
  | c :: cs, off + 1, xs => c :: splice cs off xs

section
variable (P : Program)

def und (t : TypeId) : Option TypeDesc := P.underlying t
def elemSlice (t : TypeId) : Option TypeId := match und P t with | some (.slice e) => some e | _ => none
def sizeT (t : TypeId) : Option Nat := (P.info? t).map (·.size)
def bytesT (t : TypeId) : Option Nat := (P.info? t).map (·.bytes)
def zeroT (t : TypeId) : Option AVal := ((P.info? t).bind (·.zero)).bind (ofConst 100000)
def aggT (t : TypeId) : Option Bool := match und P t with
  | some (.struct _) | some (.array _ _) => some true
  | some _ => some false
  | none => none

def partA (t : TypeId) (cs : List AVal) (off : Nat) : Option AVal :=
  match aggT P t, sizeT P t with
  | some true, some n => some (.agg ((cs.drop off).take n))
  | some false, _ => cs[off]?
  | _, _ => none

def cellAt (h : Hp) (b off : Nat) : Option AVal := match h.get b with
  | some (.cells _ _ _ t) => t.get off
  | _ => none

def loadA (h : Hp) (t : TypeId) : AVal → Option AVal
  | .ptr b off => match h.get b with
    | some (.cells _ _ _ c) => match aggT P t, sizeT P t with
      | some true, some n => (readT c n off).map .agg
      | some false, _ => c.get off
      | _, _ => none
    | _ => none
  | _ => none

def AVal.isTuple : AVal → Bool
  | .tuple _ => true
  | _ => false
/-- Is every place from off on for n cells known? -/
def known (c : T AVal) : Nat → Nat → Bool
  | 0, _ => true
  | n + 1, i => match c.get i with | some _ => known c n (i + 1) | none => false

def storeA (h : Hp) (t : TypeId) (p v : AVal) : Option Hp :=
  match p with
  | .ptr b off => match h.get b, sizeT P t with
    | some (.cells e ext fz c), some n =>
      bif !v.isTuple && Nat.beq v.cells.length n && !Nat.beq n 0 && Nat.ble fz off && known c n off then some (h.put b (.cells e (Nat.max ext (off + n)) fz (fillT v.cells off c))) else none
    | _, _ => none
  | _ => none

def fillP (place : Nat → Option (Nat × Nat)) : List (Nat × AVal) → List AVal → Option (List AVal)
  | [], cs => some cs
  | (i, v) :: l, cs => match place i with
    | some (off, size) =>
      bif !v.isTuple && Nat.beq v.cells.length size && Nat.ble (off + v.cells.length) cs.length then fillP place l (splice cs off v.cells) else none
    | none => none

def placesT (fields : Array Field) : Option (List (Nat × Nat)) := fields.toList.mapM fun f => (P.info? f.type).map fun i => (f.offset, i.size)

def repeatL (z : List AVal) : Nat → List AVal
  | 0 => []
  | n + 1 => z ++ repeatL z n

def bytesL : Nat → Nat → List AVal
  | 0, _ => []
  | n + 1, c => .int .u8 (Int.ofNat (c % 256)) :: bytesL n (c / 256)

/-- The cells of what is appended or copied: n elements of a size. -/
def cellsOfA (h : Hp) (size n : Nat) : AVal → Option (List AVal)
  | .slice b off _ _ _ sz => bif Nat.beq sz size then (match h.get b with
      | some (.cells _ _ _ c) => readT c (n * size) off
      | _ => none) else none
  | .nilslice => bif Nat.beq n 0 then some [] else none
  | .str _ code => bif Nat.beq size 1 then some (bytesL n code) else none
  | _ => none
def lenA : AVal → Option Nat
  | .slice _ _ len _ _ _ => some len
  | .nilslice => some 0
  | .str len _ => some len
  | _ => none

def room : Nat := 140737488355328

/-- The first n cells of a row from place off on, as a row of their own. -/
def headT (c : T AVal) (ext off n : Nat) : Option (T AVal) :=
  bif Nat.beq off 0 && Nat.ble ext n then some c else (readT c n off).map (fillT · 0 .e)
/-- append of cells, m elements of a size, to a slice. -/
def appendA (h : Hp) (e : TypeId) (size bytes : Nat) (s : AVal) (m : Nat) (new : List AVal) : Option (AVal × Hp) :=
  bif Nat.beq size 0 || Nat.beq bytes 0 then none else
  match s with
  | .nilslice =>
    bif Nat.beq m 0 then some (.nilslice, h) else
    bif Nat.ble (m * bytes) room then some (.slice h.next 0 m m false size, h.new (.cells e (m * size) 0 (fillT new 0 .e))) else none
  | .slice b off len cap exact sz =>
    bif Nat.beq sz size then
      match h.get b with
      | some (.cells eb ext fz c) =>
        bif Nat.ble (len + m) cap then
          bif Nat.ble fz (off + len * size) then
            some (.slice b off (len + m) cap exact size, h.put b (.cells eb (Nat.max ext (off + len * size + m * size)) fz (fillT new (off + len * size) c)))
          else none
        else bif Nat.ble ((len + m) * bytes) room && Nat.beq eb e then
          match headT c ext off (len * size) with
          | some c' =>
            bif exact then some (.slice h.next 0 (len + m) (len + m) false size, h.new (.cells e ((len + m) * size) 0 (fillT new (len * size) c')))
            else bif Nat.ble fz (len * size) && Nat.beq off 0 then
              some (.slice h.next 0 (len + m) (len + m) false size, (h.kill b).new (.cells e ((len + m) * size) fz (fillT new (len * size) c')))
            else none
          | none => none
        else none
      | _ => none
    else none
  | _ => none

def iTmod (x y : Int) : Int := x.tmod y

def cmpA (op : BinOp) (x y : Int) : Option AVal := match op with
  | .eql => some (.bool (x == y))
  | .neq => some (.bool (x != y))
  | .lss => some (.bool (x < y))
  | .leq => some (.bool (x ≤ y))
  | .gtr => some (.bool (x > y))
  | .geq => some (.bool (x ≥ y))
  | _ => none

def bitsA (op : BinOp) (k : IntKind) (x y : Int) : Option AVal :=
  bif decide (0 ≤ x) && decide (0 ≤ y) then match op with
    | .and => some (fitI k (Int.ofNat ((x.toNat % 2 ^ k.bits) &&& (y.toNat % 2 ^ k.bits))))
    | .or => some (fitI k (Int.ofNat ((x.toNat % 2 ^ k.bits) ||| (y.toNat % 2 ^ k.bits))))
    | .xor => some (fitI k (Int.ofNat ((x.toNat % 2 ^ k.bits) ^^^ (y.toNat % 2 ^ k.bits))))
    | _ => none
  else none

def lessL : Nat → Nat → Nat → Nat → Bool
  | _, 0, _, _ => false
  | 0, _ + 1, _, _ => true
  | n + 1, m + 1, a, b => Nat.blt (a % 256) (b % 256) || (Nat.beq (a % 256) (b % 256) && lessL n m (a / 256) (b / 256))

/-- Of two structs, field by field. -/
def eqFs (eq : TypeId → AVal → AVal → Option Bool) (xs ys : List AVal) : List Field → Option Bool
  | [] => some true
  | f :: l => bif f.name == "_" then none else match partA P f.type xs f.offset, partA P f.type ys f.offset with
    | some a, some b => match eq f.type a b with
      | some true => eqFs eq xs ys l
      | r => r
    | _, _ => none
/-- == of two values of a type. -/
def eqA : Nat → TypeId → AVal → AVal → Option Bool
  | 0, _, _, _ => none
  | d + 1, t, x, y => match und P t, x, y with
    | some .bool, .bool a, .bool b => some (a == b)
    | some (.int _), .int k a, .int k' b => bif k == k' then some (a == b) else none
    | some .string, .str n a, .str m b => some (Nat.beq n m && Nat.beq a b)
    | some (.pointer _), .nilptr, .nilptr => some true
    | some (.pointer _), .nilptr, .ptr _ _ | some (.pointer _), .ptr _ _, .nilptr => some false
    | some (.pointer e), .ptr a i, .ptr b j => match sizeT P e with
      | some (_ + 1) => bif Nat.beq a b then some (Nat.beq i j) else none
      | _ => none
    | some (.interface _), .niliface, .niliface => some true
    | some (.interface _), .niliface, .iface _ _ | some (.interface _), .iface _ _, .niliface => some false
    | some (.interface _), .iface tx vx, .iface ty vy =>
      bif Nat.beq tx ty then (match P.info? tx with | some i => bif i.comparable then eqA d tx vx vy else none | none => none) else some false
    | some (.struct fields), .agg xs, .agg ys => bif P.stoodInHeld t then none else eqFs P (eqA d) xs ys fields.toList
    | some (.slice _), .nilslice, .nilslice => some true
    | some (.slice _), .nilslice, .slice .. | some (.slice _), .slice .., .nilslice => some false
    | some (.map _ _), .nilmap, .nilmap => some true
    | some (.map _ _), .nilmap, .map _ | some (.map _ _), .map _, .nilmap => some false
    | some (.func _ _ _), .nilfunc, .nilfunc => some true
    | some (.func _ _ _), .nilfunc, .func .. | some (.func _ _ _), .func .., .nilfunc => some false
    | _, _, _ => none

/-- May two values be compared without more ado? (lit: one of them stands there as a literal.) -/
def guardA (lit : Bool) (t : TypeId) (x y : AVal) : Bool := match x, y with
  | .niliface, .niliface => lit
  | .agg _, .agg _ => !P.eqGuardType P.depth t
  | .opq _, _ | _, .opq _ => false
  | _, _ => true
def isConstO : Operand → Bool
  | .const _ => true
  | _ => false
def binA (op : BinOp) (lit : Bool) (t : TypeId) (x y : AVal) : Option AVal :=
  match x, y with
  | .int k a, .int k' b =>
    match op with
    | .shl => bif decide (b < 0) then none else some (fitI k (a * 2 ^ (min b.toNat k.bits)))
    | .shr => bif decide (b < 0) then none else some (.int k (a.fdiv (2 ^ (min b.toNat k.bits))))
    | _ => bif k == k' then match op with
      | .add => some (fitI k (a + b))
      | .sub => some (fitI k (a - b))
      | .mul => some (fitI k (a * b))
      | .quo => bif b == 0 then none else some (fitI k (a.tdiv b))
      | .rem => bif b == 0 then none else some (.int k (a.tmod b))
      | .and | .or | .xor | .andNot => bitsA op k a b
      | _ => cmpA op a b
      else none
  | .str n a, .str m b => match op with
    | .add => bif Nat.ble (n + m) (2 ^ 62) then some (.str (n + m) (a + b <<< (8 * n))) else none
    | .eql => some (.bool (Nat.beq n m && Nat.beq a b))
    | .neq => some (.bool (!(Nat.beq n m && Nat.beq a b)))
    | .lss => some (.bool (lessL n m a b))
    | .leq => some (.bool (lessL n m a b || (Nat.beq n m && Nat.beq a b)))
    | .gtr => some (.bool (!(lessL n m a b || (Nat.beq n m && Nat.beq a b))))
    | .geq => some (.bool (!lessL n m a b))
    | _ => none
  | x, y => bif guardA P lit t x y then match op with
      | .eql => (eqA P 20 t x y).map .bool
      | .neq => (eqA P 20 t x y).map fun b => .bool !b
      | _ => none
    else none
/-- == of two pointers, the memory at hand. -/
def eqPtr (h : Hp) (e : TypeId) (x y : AVal) : Option Bool := match x, y with
  | .ptr a i, .ptr b j => match sizeT P e with
    | some (_ + 1) => bif Nat.beq a b then some (Nat.beq i j) else match h.get a, h.get b with
      | some (.cells _ _ 0 _), some (.cells _ _ 0 _) => some false
      | _, _ => none
    | _ => none
  | .nilptr, .nilptr => some true
  | .nilptr, .ptr _ _ | .ptr _ _, .nilptr => some false
  | _, _ => none

def unA (op : UnOp) : AVal → Option AVal
  | .bool b => match op with | .not => some (.bool !b) | _ => none
  | .int k n => match op with | .neg => some (fitI k (0 - n)) | _ => none
  | _ => none

def runeAt (len code i : Nat) : Nat × Nat :=
  let at' (k : Nat) : Nat := byteAt code (i + k)
  let cont (k : Nat) : Bool := Nat.blt (i + k) len && Nat.beq (at' k / 64) 2
  let b0 := at' 0
  if b0 < 0x80 then (b0, 1)
  else if b0 / 32 == 6 && cont 1 then
    let c := (b0 % 32) * 64 + at' 1 % 64
    if c ≥ 0x80 then (c, 2) else (Utf8.runeError, 1)
  else if b0 / 16 == 14 && cont 1 && cont 2 then
    let c := (b0 % 16) * 4096 + (at' 1 % 64) * 64 + at' 2 % 64
    if c ≥ 0x800 && Utf8.valid c then (c, 3) else (Utf8.runeError, 1)
  else if b0 / 8 == 30 && cont 1 && cont 2 && cont 3 then
    let c := (b0 % 8) * 262144 + (at' 1 % 64) * 4096 + (at' 2 % 64) * 64 + at' 3 % 64
    if c ≥ 0x10000 && Utf8.valid c then (c, 4) else (Utf8.runeError, 1)
  else (Utf8.runeError, 1)

def natOfCells : List AVal → Option Nat
  | [] => some 0
  | .int .u8 n :: l => match n, natOfCells l with
    | .ofNat b, some r => bif Nat.blt b 256 then some (b + 256 * r) else none
    | _, _ => none
  | _ :: _ => none

def findB (code c : Nat) : Nat → Nat → Int
  | 0, _ => -1
  | f + 1, i => bif Nat.beq (byteAt code i) c then Int.ofNat i else findB code c f (i + 1)
def countB (code c : Nat) : Nat → Nat → Nat
  | 0, acc => acc
  | f + 1, acc => countB (code / 256) c f (bif Nat.beq (code % 256) c then acc + 1 else acc)
def findS (code n sub : Nat) : Nat → Nat → Int
  | 0, _ => -1
  | f + 1, i => bif Nat.beq (cut code i (i + n)) sub then Int.ofNat i else findS code n sub f (i + 1)

/-- A map's entry of a key; only keys that are numbers, texts or bools. -/
def findE : AVal → List Ent → Nat → Option (Option (Nat × AVal))
  | _, [], _ => some none
  | k, e :: es, i => match k, e.key with
    | .int j a, .int j' b => bif j == j' then (bif a == b then some (some (i, e.val)) else findE k es (i + 1)) else none
    | .str n a, .str m b => bif Nat.beq n m && Nat.beq a b then some (some (i, e.val)) else findE k es (i + 1)
    | .bool a, .bool b => bif a == b then some (some (i, e.val)) else findE k es (i + 1)
    | _, _ => none
/-- Keys that are numbers, texts or bools, as their type says. -/
def keyFits (t : TypeId) (k : AVal) : Bool := match und P t, k with
  | some (.int _), .int _ _ | some .string, .str _ _ | some .bool, .bool _ => true
  | _, _ => false

inductive ExtK where
  | indexByte | count | noEscape | makeNoZero
def extOf (fn : Func) : Option ExtK :=
  bif !(fn.origin == "") then none
  else bif fn.name == "internal/bytealg.IndexByteString" then some .indexByte
  else bif fn.name == "internal/bytealg.CountString" then some .count
  else bif fn.name == "internal/abi.NoEscape" then some .noEscape
  else bif fn.name == "internal/bytealg.MakeNoZero" then some .makeNoZero
  else none

def evalExt (k : ExtK) (fn : Func) (args : List AVal) (h : Hp) : Option (AVal × Hp) :=
  match k, args with
  | .indexByte, [.str n a, .int .u8 (.ofNat c)] => bif Nat.blt c 256 then some (.int .i64 (findB a c n 0), h) else none
  | .count, [.str n a, .int .u8 (.ofNat c)] => bif Nat.blt c 256 then some (.int .i64 (Int.ofNat (countB a c n 0)), h) else none
  | .noEscape, [x] => some (x, h)
  | .makeNoZero, [.int .i64 n] => match (match fn.resultTypes.toList with | [t] => elemSlice P t | _ => none) with
    | some e => bif decide (0 ≤ n) && decide (n ≤ 281474976710656) then some (.slice h.next 0 n.toNat n.toNat false 1, h.new (.cells e 0 0 .e)) else none
    | none => none
  | _, _ => none

def boundA (x : AVal) (y : Nat) : Option Nat := match x with
  | .int _ n => bif decide (0 ≤ n) && decide (n ≤ (y : Int)) then some n.toNat else none
  | _ => none
def boundO (x : Option AVal) (d y : Nat) : Option Nat := match x with
  | none => some d
  | some v => boundA v y
def boundsA (len : Nat) (cap : Nat) (exact : Bool) (lo hi mx : Option AVal) : Option (Nat × Nat × Nat × Bool) :=
  bif mx.isSome && hi.isNone then none else match boundO mx cap cap with
  | some m => match boundO hi len m with
    | some h => match boundO lo 0 h with
      | some l => some (l, h, m, exact || mx.isSome)
      | none => none
    | none => none
  | none => none

def sliceA (t : TypeId) (x : AVal) (lo hi mx : Option AVal) : Option AVal := do
  match und P t, x with
  | some .string, .str n a =>
    if mx.isSome then none
    let (l, h, _, _) ← boundsA n n true lo hi none
    pure (.str (h - l) (cut a l h))
  | some (.slice e), .nilslice =>
    let (_, _, _, _) ← boundsA 0 0 true lo hi mx
    let _ ← sizeT P e
    pure .nilslice
  | some (.slice e), .slice b off len cap exact size =>
    let (l, h, m, ex) ← boundsA len cap exact lo hi mx
    if (← sizeT P e) ≠ size then none
    -- an open capacity: where m = l the address hangs on whether there is more behind it
    if m = l && !ex && l ≠ 0 then none
    pure (.slice b (if m = l then off else off + l * size) (h - l) (m - l) ex size)
  | _, _ => none

def fieldAddrA (s : TypeId) (x : AVal) (f : Nat) : Option AVal :=
  match und P s, x with
  | some (.struct fields), .ptr b off => match fields[f]? with
    | some fd => match sizeT P fd.type with
      | some (_ + 1) => some (.ptr b (off + fd.offset))
      | _ => none
    | none => none
  | _, _ => none

def indexAddrA (t : TypeId) (x i : AVal) : Option AVal :=
  match und P t, x, i with
  | some (.array len e), .ptr b off, .int _ n => match sizeT P e with
    | some size => bif decide (0 ≤ n) && decide (n < (len : Int)) then some (.ptr b (off + n.toNat * size)) else none
    | none => none
  | some (.slice e), .slice b off len _ _ sz, .int _ n => match sizeT P e with
    | some size => bif decide (0 ≤ n) && decide (n < (len : Int)) && Nat.beq size sz then some (.ptr b (off + n.toNat * size)) else none
    | none => none
  | _, _, _ => none

def indexA (t : TypeId) (x i : AVal) : Option AVal :=
  match und P t, x, i with
  | some (.array len e), .agg cs, .int _ n => match sizeT P e with
    | some size => bif decide (0 ≤ n) && decide (n < (len : Int)) then partA P e cs (n.toNat * size) else none
    | none => none
  | some .string, .str len a, .int _ n =>
    bif decide (0 ≤ n) && decide (n < (len : Int)) then some (.int .u8 (Int.ofNat (byteAt a n.toNat))) else none
  | _, _, _ => none

def convP (src dst : TypeId) (x : AVal) : Option AVal :=
  match und P src, und P dst, x with
  | some _, some (.int k), .int _ n => some (fitI k n)
  | some _, some .string, .str n a => some (.str n a)
  | some _, some .string, .int _ n => some (.ofBytes (Utf8.encode n))
  | _, _, _ => none
/-- Is block b a row that begins with a variable of type t? -/
def headIs (h : Hp) (b : Nat) (t : TypeId) : Bool := match h.get b with
  | some (.cells e _ _ c) => Nat.beq e t && Nat.blt 0 (P.cellsOf e) && known c (P.cellsOf e) 0
  | _ => false
def convR (src dst : TypeId) (h : Hp) (x : AVal) : Option AVal :=
  match und P src, und P dst, x with
  | some (.slice e), some .string, .nilslice => match und P e with
    | some (.int .u8) => some (.str 0 0)
    | _ => none
  | some (.slice e), some .string, .slice b off len _ _ sz => match und P e, h.get b with
    | some (.int .u8), some (.cells _ _ _ c) => bif Nat.beq sz 1 then ((readT c len off).bind natOfCells).map fun k => .str len k else none
    | _, _ => none
  | some (.pointer t), some .unsafePointer, .ptr b 0 => match sizeT P t with
    | some (_ + 1) => bif headIs P h b t then some (.ptr b 0) else none
    | _ => none
  | some .unsafePointer, some (.pointer t), .ptr b 0 => match sizeT P t with
    | some (_ + 1) => bif headIs P h b t then some (.ptr b 0) else none
    | _ => none
  | _, _, _ => none
/-- A frozen row's mark: all its places may be such. -/
def allFz : Nat := 2 ^ 70
def convE (src dst : TypeId) (h : Hp) (x : AVal) : Option (AVal × Hp) :=
  match und P src, und P dst, x with
  | some .string, some (.slice e), .str n a => match und P e with
    | some (.int .u8) => bif Nat.ble n (2 ^ 62) then some (.slice h.next 0 n n false 1, h.new (.cells e n allFz (fillT (bytesL n a) 0 .e))) else none
    | _ => none
  | _, _, _ => none

def assertA (x : AVal) (asserted : TypeId) (ok : Bool) : Option AVal :=
  let holds (v : AVal) : AVal := if ok then .tuple [v, .bool true] else v
  let fails : Option AVal := if ok then (zeroT P asserted).map fun z => .tuple [z, .bool false] else none
  match und P asserted, x with
  | some (.interface _), .niliface => fails
  | some (.interface want), .iface t _ => match P.info? t with
    | some i => match Instr.missingMethod want i.methods with
      | none => some (holds x)
      | some _ => fails
    | none => none
  | some _, .niliface => fails
  | some _, .iface t v => bif Nat.beq t asserted then some (holds v) else fails
  | _, _ => none

def minA (mx : Bool) : AVal → List AVal → Option AVal
  | x, [] => some x
  | .int k a, .int _ b :: l => minA mx (.int k (bif mx then (bif decide (b > a) then b else a) else (bif decide (b < a) then b else a))) l
  | _, _ => none

def pureBuiltin (b : Builtin) (ts : List TypeId) (args : List AVal) : Option AVal :=
  match b, ts, args with
  | .len, t :: _, x :: _ => match und P t, x with
    | some .string, .str n _ => some (.int .i64 n)
    | some (.array n _), _ => some (.int .i64 n)
    | some (.slice _), .slice _ _ n _ _ _ => some (.int .i64 n)
    | some (.slice _), .nilslice => some (.int .i64 0)
    | some (.map _ _), .nilmap => some (.int .i64 0)
    | _, _ => none
  | .cap, t :: _, x :: _ => match und P t, x with
    | some (.slice _), .slice _ _ _ c true _ => some (.int .i64 c)
    | some (.slice _), .nilslice => some (.int .i64 0)
    | _, _ => none
  | .min, _, x :: l => minA false x l
  | .max, _, x :: l => minA true x l
  | .unsafeSliceData, _, [.nilslice] => some .nilptr
  | .unsafeSliceData, _, [.slice b off _ (_ + 1) _ _] => some (.ptr b off)
  | _, _, _ => none

def appendOp (t xt : TypeId) (s x : AVal) (h : Hp) : Option (AVal × Hp) :=
  match und P t, und P xt with
  | some (.slice _), some (.int _) => none
  | some (.slice e), some _ => match sizeT P e, bytesT P e, lenA x with
    | some size, some bytes, some m => match cellsOfA h size m x with
      | some new => match zeroT P e with
        | some z => bif !z.isTuple && Nat.beq z.cells.length size then appendA h e size bytes s m new else none
        | none => none
      | none => none
    | _, _, _ => none
  | _, _ => none
def copyOp (t : TypeId) (dst src : AVal) (h : Hp) : Option (AVal × Hp) :=
  match und P t, lenA src, dst with
  | some (.slice e), some n, .slice b off len _ _ sz => match sizeT P e with
    | some size => match cellsOfA h size (Nat.min n len) src, h.get b with
      | some new, some (.cells eb ext fz c) =>
        bif Nat.beq sz size && (Nat.beq (Nat.min n len) 0 || Nat.ble fz off) then some (.int .i64 (Nat.min n len), h.put b (.cells eb (Nat.max ext (off + Nat.min n len * size)) fz (fillT new off c))) else none
      | _, _ => none
    | none => none
  | some (.slice e), some _, .nilslice => match sizeT P e with
    | some size => match cellsOfA h size 0 src with
      | some _ => some (.int .i64 0, h)
      | none => none
    | none => none
  | _, _, _ => none
def deleteOp (t : TypeId) (m k : AVal) (h : Hp) : Option (AVal × Hp) :=
  match und P t, m with
  | some (.map kt _), .map r => match h.get r with
    | some (.map es clock) => bif keyFits P kt k then match findE k es 0 with
        | some (some (i, _)) => some (.tuple [], h.put r (.map (es.eraseIdx i) clock))
        | some none => some (.tuple [], h.put r (.map es clock))
        | none => none
      else none
    | _ => none
  | _, _ => none
def unsafeStringOp (t : TypeId) (p : AVal) (n : Int) (h : Hp) : Option (AVal × Hp) :=
  match n, p with
  | .ofNat 0, .nilptr => some (.str 0 0, h)
  | .ofNat 0, .ptr _ _ => some (.str 0 0, h)
  | .ofNat (n + 1), p => match p, und P t with
    | .ptr b off, some (.pointer et) => match h.get b with
      | some (.cells e ext fz c) => bif Nat.beq e et && Nat.beq (P.cellsOf e) 1 && Nat.ble (n + 1) (2 ^ 62) && Nat.beq off 0 then match (readT c (n + 1) off).bind natOfCells with
          | some code => some (.str (n + 1) code, h.put b (.cells e ext (Nat.max fz (off + (n + 1))) c))
          | none => none
        else none
      | _ => none
    | _, _ => none
  | _, _ => none
def effBuiltin (b : Builtin) (ts : List TypeId) (args : List AVal) (h : Hp) : Option (AVal × Hp) :=
  match b, ts, args with
  | .append, [t, xt], [s, x] => appendOp P t xt s x h
  | .copy, t :: _, [dst, src] => copyOp P t dst src h
  | .delete, t :: _, [m, k] => deleteOp P t m k h
  | .unsafeString, [t, _], [p, .int .i64 n] => unsafeStringOp P t p n h
  | _, _, _ => none

def opdA (fr : T AVal) : Operand → Option AVal
  | .tmp t => some ((fr.get t).getD .undef)
  | .const v => ofConst 100000 v
  | .global g => some (.gptr g 0)
  | .func f => some (.func (.func f) [] [])
def opdsA (fr : T AVal) : List Operand → Option (List AVal)
  | [] => some []
  | x :: l => do pure ((← opdA fr x) :: (← opdsA fr l))
def optA (fr : T AVal) : Option Operand → Option (Option AVal)
  | none => some none
  | some x => (opdA fr x).map some
def partsA (fr : T AVal) : List (Nat × Operand) → Option (List (Nat × AVal))
  | [] => some []
  | (i, x) :: l => do pure ((i, ← opdA fr x) :: (← partsA fr l))

def buildA (fr : T AVal) (t : TypeId) (parts : List (Nat × Operand)) : Option AVal :=
  match zeroT P t, partsA fr parts with
  | some z, some ps => bif z.isTuple then none else match und P t with
    | some (.struct fields) => match placesT P fields with
      | some places => (fillP (places[·]?) ps z.cells).map .agg
      | none => none
    | some (.array _ e) => match sizeT P e with
      | some size => (fillP (fun i => some (i * size, size)) ps z.cells).map .agg
      | none => none
    | _ => none
  | _, _ => none

/-- Operations that look at no memory. -/
def pureOp (fr : T AVal) (o : Oper) : Option AVal :=
  match o.op with
  | .move x | .assign x => opdA fr x
  | .pick c a b => match opdA fr c with
    | some (.bool true) => opdA fr a
    | some (.bool false) => opdA fr b
    | _ => none
  | .build t parts => buildA P fr t parts.toList
  | .nilCheck x => match opdA fr x with
    | some (.ptr b off) => some (.ptr b off)
    | some (.gptr g off) => some (.gptr g off)
    | some (.iface t v) => some (.iface t v)
    | some (.func (.func f) a c) => some (.func (.func f) a c)
    | _ => none
  | .binOp op t x y _ => match opdA fr x, opdA fr y with
    | some a, some b => binA P op (isConstO x || isConstO y) t a b
    | _, _ => none
  | .unOp op _ x => match opdA fr x with
    | some a => unA op a
    | none => none
  | .convert src dst x => match opdA fr x with
    | some a => convP P src dst a
    | none => none
  | .makeInterface t x => match und P t, opdA fr x with
    | some (.interface _), _ | none, _ => none
    | _, some v => some (.iface t v)
    | _, _ => none
  | .makeFunc fn first captured => match opdsA fr first.toList, opdsA fr captured.toList with
    | some a, some b => some (.func fn a b)
    | _, _ => none
  | .slice t x lo hi mx => match opdA fr x, optA fr lo, optA fr hi, optA fr mx with
    | some a, some l, some h, some m => sliceA P t a l h m
    | _, _, _, _ => none
  | .fieldAddr s x f => match opdA fr x with
    | some a => fieldAddrA P s a f
    | none => none
  | .field t x f => match und P t, opdA fr x with
    | some (.struct fields), some (.agg cs) => match fields[f]? with
      | some fd => partA P fd.type cs fd.offset
      | none => none
    | _, _ => none
  | .indexAddr t x i => match opdA fr x, opdA fr i with
    | some a, some b => indexAddrA P t a b
    | _, _ => none
  | .index t x i => match opdA fr x, opdA fr i with
    | some a, some b => indexA P t a b
    | _, _ => none
  | .typeAssert x _ asserted ok => match opdA fr x with
    | some a => assertA P a asserted ok
    | none => none
  | .extract x i => match opdA fr x with
    | some (.tuple vs) => vs[i]?
    | _ => none
  | .call c => match c.callee with
    | .builtin b => match opdsA fr c.args.toList with
      | some args => pureBuiltin P b c.argTypes.toList args
      | none => none
    | _ => none
  | _ => none

/-- A map's entries; nil has none. -/
def entsA (h : Hp) : AVal → Option (List Ent)
  | .nilmap => some []
  | .map r => match h.get r with
    | some (.map es _) => some es
    | _ => none
  | _ => none
def lookupA (h : Hp) (t : TypeId) (m k : AVal) (ok : Bool) : Option AVal :=
  match und P t, entsA h m with
  | some (.map kt et), some es => bif !keyFits P kt k then none else match findE k es 0 with
    | some (some (_, v)) => some (if ok then .tuple [v, .bool true] else v)
    | some none => match zeroT P et with
      | some z => some (if ok then .tuple [z, .bool false] else z)
      | none => none
    | none => none
  | _, _ => none
def eqPtrOp (h : Hp) (op : BinOp) (t : TypeId) (x y : AVal) : Option AVal := match und P t with
  | some (.pointer e) => match op, eqPtr P h e x y with
    | .eql, some b => some (.bool b)
    | .neq, some b => some (.bool !b)
    | _, _ => none
  | _ => none
def sliceArr (h : Hp) (t : TypeId) (x : AVal) (lo hi mx : Option AVal) : Option AVal :=
  match und P t, x with
  | some (.array n e), .ptr b off => match boundsA n n true lo hi mx, sizeT P e, h.get b with
    | some (l, h', m, _), some size, some (.cells _ _ _ c) =>
      bif Nat.beq (n * size) 0 || !known c (n * size) off then none else some (.slice b (if m = l then off else off + l * size) (h' - l) (m - l) true size)
    | _, _, _ => none
  | _, _ => none
def lenMap (h : Hp) (ts : List TypeId) (args : List AVal) : Option AVal := match ts, args with
  | t :: _, .map r :: _ => match und P t, h.get r with
    | some (.map _ _), some (.map es _) => some (.int .i64 es.length)
    | _, _ => none
  | t :: _, .nilmap :: _ => match und P t with
    | some (.map _ _) => some (.int .i64 0)
    | _ => none
  | _, _ => none

variable (G : Nat → Option AVal)
/-- Operations that only read memory. -/
def readOp (fr : T AVal) (h : Hp) (o : Oper) : Option AVal :=
  match o.op with
  | .load t a => match opdA fr a with
    | some (.gptr g 0) => match aggT P t with
      | some false => G g
      | _ => none
    | some p => loadA P h t p
    | none => none
  | .lookup t x i ok => match opdA fr x, opdA fr i with
    | some m, some k => lookupA P h t m k ok
    | _, _ => none
  | .convert src dst x => match opdA fr x with
    | some a => convR P src dst h a
    | none => none
  | .binOp op t x y _ => match opdA fr x, opdA fr y with
    | some a, some b => eqPtrOp P h op t a b
    | _, _ => none
  | .slice t x lo hi mx => match opdA fr x, optA fr lo, optA fr hi, optA fr mx with
    | some a, some l, some h', some m => sliceArr P h t a l h' m
    | _, _, _, _ => none
  | .call c => match c.callee with
    | .builtin .len => match opdsA fr c.args.toList with
      | some args => lenMap P h c.argTypes.toList args
      | none => none
    | _ => none
  | _ => none

/-- Operations that make one block, out of what stands in slots alone: the value, the block, if the block's number is to be id. -/
def allocOp (fr : T AVal) (id : Nat) (o : Oper) : Option (AVal × Blk) :=
  match o.op with
  | .alloc e => match zeroT P e with
    | some z => bif z.isTuple then none else some (.ptr id 0, .cells e z.cells.length 0 (fillT z.cells 0 .e))
    | none => none
  | .box e x => match opdA fr x with
    | some v => bif v.isTuple then none else some (.ptr id 0, .cells e v.cells.length 0 (fillT v.cells 0 .e))
    | none => none
  | .buildSlice t len parts => match elemSlice P t with
    | some e => bif Nat.beq len 0 then (match sizeT P e, parts.toList with
      | some (size + 1), [] => some (.slice id 0 0 0 true (size + 1), .cells e 0 0 .e)
      | _, _ => none) else match sizeT P e, zeroT P e, partsA fr parts.toList with
      | some size, some z, some ps => bif z.isTuple || Nat.beq (len * size) 0 || !Nat.ble (len * size) (2 ^ 24) || !Nat.beq z.cells.length size then none else
        match fillP (fun i => some (i * size, size)) ps (repeatL z.cells len) with
        | some cs => some (.slice id 0 len len true size, .cells e (len * size) 0 (fillT cs 0 .e))
        | none => none
      | _, _, _ => none
    | none => none
  | .makeMap _ none => some (.map id, .map [] 0)
  | .range t x => match und P t, opdA fr x with
    | some .string, some (.str n a) => some (.ptr id 0, .siter n a 0)
    | _, _ => none
  | _ => none

def mapPut (h : Hp) (t : TypeId) (m k v : AVal) : Option (AVal × Hp) :=
  match und P t, m with
  | some (.map kt _), .map r => match h.get r with
    | some (.map es clock) => bif !keyFits P kt k then none else match findE k es 0 with
      | some (some (i, _)) => some (.undef, h.put r (.map (es.modify i fun e => { e with key := k, val := v }) clock))
      | some none => some (.undef, h.put r (.map (es ++ [⟨k, v, clock⟩]) (clock + 1)))
      | none => none
    | _ => none
  | _, _ => none
def nextStr (h : Hp) (it : AVal) : Option (AVal × Hp) := match it with
  | .ptr r 0 => match h.get r with
    | some (.siter n a pos) =>
      bif Nat.blt pos n then some (.tuple [.bool true, .int .i64 pos, .int .i32 (runeAt n a pos).1], h.put r (.siter n a (pos + (runeAt n a pos).2)))
      else some (.tuple [.bool false], h)
    | _ => none
  | _ => none
def makeSliceA (h : Hp) (t : TypeId) (l c : AVal) : Option (AVal × Hp) :=
  match elemSlice P t, l, c with
  | some e, .int .i64 (.ofNat l), .int .i64 (.ofNat c) => match sizeT P e, bytesT P e, zeroT P e with
    | some size, some bytes, some z =>
      bif z.isTuple || Nat.beq size 0 || !Nat.ble (c * bytes) room || !Nat.ble l c || !Nat.ble c (2 ^ 62) || !Nat.beq z.cells.length size then none
      else some (.slice h.next 0 l c true size, h.new (.cells e (c * size) 0 (fillT (repeatL z.cells c) 0 .e)))
    | _, _, _ => none
  | _, _, _ => none

/-- Operations that write memory, or make it by the way, but for calls. -/
def effOp (fr : T AVal) (h : Hp) (o : Oper) : Option (AVal × Hp) :=
  match o.op with
  | .store t a x => match opdA fr a, opdA fr x with
    | some p, some v => match storeA P h t p v with
      | some h' => some (.undef, h')
      | none => none
    | _, _ => none
  | .makeMap t (some r) => match und P t, opdA fr r with
    | some (.map _ _), some (.int _ _) => some (.map h.next, h.new (.map [] 0))
    | _, _ => none
  | .makeSlice t l c => match opdA fr l, opdA fr c with
    | some a, some b => makeSliceA P h t a b
    | _, _ => none
  | .mapUpdate t m k x | .insert t m k x => match opdA fr m, opdA fr k, opdA fr x with
    | some m, some k, some v => mapPut P h t m k v
    | _, _, _ => none
  | .next it true => match opdA fr it with
    | some i => nextStr h i
    | none => none
  | .convert src dst x => match opdA fr x with
    | some a => convE P src dst h a
    | none => none
  | .call c => match c.callee with
    | .builtin b => match opdsA fr c.args.toList with
      | some args => effBuiltin P b c.argTypes.toList args h
      | none => none
    | _ => none
  | _ => none

/-- What a call comes to: a function and its arguments. -/
def methodA (t : TypeId) (v : AVal) (name : String) : Option (FuncId × AVal) :=
  match P.info? t with
  | some i => match i.methods.find? (·.name == name) with
    | some m => bif m.path.isEmpty then match m.func, und P t with
        | some (f, true), some (.pointer _) => some (f, v)
        | some (_, false), some (.pointer _) => none
        | some (f, false), some _ => some (f, v)
        | _, _ => none
      else none
    | none => none
  | none => none
def targetA (fr : T AVal) (c : Call) : Option (FuncId × List AVal) :=
  match opdsA fr c.args.toList with
  | some args => match c.callee with
    | .value f => match opdA fr f with
      | some (.func (.func f) first captured) => some (f, first ++ args ++ captured)
      | _ => none
    | .invoke r name => match opdA fr r with
      | some (.iface t v) => match methodA P t v name with
        | some (f, recv) => some (f, recv :: args)
        | none => none
      | _ => none
    | .builtin _ => none
  | none => none

inductive Ex where
  | normal
  | exit (id : Nat)
  | goto (l : Nat)
  | ret

def putA (fr : T AVal) (dst : Option Tmp) (v : AVal) : T AVal := match dst with
  | some d => fr.set d v
  | none => fr

def yieldA (ops : List Oper) (fr : T AVal) (j : Nat) : Option Bool :=
  match (ops[j]?).bind (·.dst) with
  | some d => match fr.get d with
    | some (.bool b) => some b
    | _ => none
  | none => none
def wantedA (ops : List Oper) (fr : T AVal) (o : Oper) : Bool := match o.guard with
  | none => true
  | some (j, want) => yieldA ops fr j == some want

mutual
def depA : AVal → Nat
  | .func _ a c => Nat.max (depL a) (depL c) + 1
  | .iface _ v => depA v + 1
  | .agg l => depL l + 1
  | .tuple l => depL l + 1
  | _ => 0
def depL : List AVal → Nat
  | [] => 0
  | x :: l => Nat.max (depA x) (depL l)
end
def beqV : Nat → AVal → AVal → Bool
  | 0, _, _ => false
  | _ + 1, .bool a, .bool b => a == b
  | _ + 1, .int k a, .int k' b => k == k' && a == b
  | _ + 1, .str n a, .str m b => Nat.beq n m && Nat.beq a b
  | _ + 1, .ptr a i, .ptr b j => Nat.beq a b && Nat.beq i j
  | _ + 1, .gptr a i, .gptr b j => Nat.beq a b && Nat.beq i j
  | _ + 1, .nilptr, .nilptr => true
  | _ + 1, .slice a b c d e f, .slice a' b' c' d' e' f' => Nat.beq a a' && Nat.beq b b' && Nat.beq c c' && Nat.beq d d' && e == e' && Nat.beq f f'
  | _ + 1, .nilslice, .nilslice => true
  | _ + 1, .map a, .map b => Nat.beq a b
  | _ + 1, .nilmap, .nilmap => true
  | _ + 1, .nilfunc, .nilfunc => true
  | n + 1, .func f a c, .func g b d => decide (f = g) && beqL n a b && beqL n c d
  | n + 1, .iface t v, .iface u w => Nat.beq t u && beqV n v w
  | _ + 1, .niliface, .niliface => true
  | _ + 1, .opq i, .opq j => Nat.beq i j
  | n + 1, .agg a, .agg b => beqL n a b
  | n + 1, .tuple a, .tuple b => beqL n a b
  | _ + 1, _, _ => false
where beqL (n : Nat) : List AVal → List AVal → Bool
  | [], [] => true
  | a :: l, b :: m => beqV n a b && beqL n l m
  | _, _ => false

/-- Masks of all that must stand ahead of each operation, whatever the order. -/
def befores (ops : List Oper) : List Nat :=
  (ops.foldl (fun acc o => acc ++ [o.after.toList.foldl (fun s e => if Region.binds .any e then s ||| 2 ^ e.on ||| acc.getD e.on 0 else s) 0]) [])

inductive Kind where
  | pure | read | alloc | eff
def kindOf (o : Oper) : Kind := match o.op with
  | .move _ | .assign _ | .pick .. | .build .. | .nilCheck _ | .unOp .. | .makeInterface .. | .makeFunc .. | .fieldAddr .. | .field ..
  | .indexAddr .. | .index .. | .typeAssert .. | .extract .. => .pure
  | .binOp op t _ _ _ => match op with
    | .eql | .neq => match und P t with
      | some (.pointer _) => .read
      | _ => .pure
    | _ => .pure
  | .slice t _ _ _ _ => match und P t with
    | some (.array _ _) => .read
    | _ => .pure
  | .load .. | .lookup .. => .read
  | .alloc _ | .box .. | .buildSlice .. | .makeMap _ none => .alloc
  | .range t _ => match und P t with
    | some .string => .alloc
    | _ => .eff
  | .convert src dst _ => match und P src, und P dst with
    | some (.slice _), _ | some (.pointer _), _ | some .unsafePointer, _ => .read
    | some .string, some (.slice _) => .eff
    | _, _ => .pure
  | .call c => match c.callee with
    | .builtin .len => match (c.argTypes[0]?).bind (und P) with
      | some (.map _ _) => .read
      | _ => .pure
    | .builtin .cap | .builtin .min | .builtin .max | .builtin .unsafeSliceData => .pure
    | _ => .eff
  | _ => .eff

def isEff (o : Oper) : Bool := match kindOf P o with | .eff => true | _ => false
/-- Of effects: which operations are such, as a mask. -/
def effFrom : List Oper → Nat → Nat
  | [], _ => 0
  | o :: l, i => bif isEff P o then 2 ^ i ||| effFrom l (i + 1) else effFrom l (i + 1)
def effMask (ops : List Oper) : Nat := effFrom P ops 0

/-- For how many numbers below n something holds. -/
def cntB (f : Nat → Bool) : Nat → Nat
  | 0 => 0
  | n + 1 => bif f n then cntB f n + 1 else cntB f n

structure Rd where
  o : Oper
  fr : T AVal
  v : AVal
  lo : Nat
  hi : Nat

/-- The tmps that an operation looks at, its guard's too. -/
def looksA (ops : List Oper) (o : Oper) : List Tmp :=
  (o.op.operands.toList.filterMap fun | .tmp t => some t | _ => none) ++
  (match o.guard with
   | some (g, _) => ((ops[g]?).bind (·.dst)).toList
   | none => [])

def isStore (o : Oper) : Bool := match o.op with | .store .. => true | _ => false
def isPure (o : Oper) : Bool := match kindOf P o with | .pure => true | _ => false

/-- Are the effects ahead of place k one behind the other? -/
def chained (ops : List Oper) (k : Nat) : Bool :=
  let b := befores ops
  let em := effMask P ops
  (List.range k).all fun j => !em.testBit j || (List.range j).all fun i => !em.testBit i || (b.getD j 0).testBit i

/-- Where the tail begins: stores that no order holds apart, and what is looked at for them alone; all that is ahead of it stands ahead of each of them. -/
def tailOf (ops : List Oper) : Nat :=
  let b := befores ops
  let n := ops.length
  if chained P ops n then n else
  ((List.range n).find? fun k => (List.range n).all fun i => Nat.blt i k ||
    (((ops[i]?).map fun o => isStore o || isPure P o).getD false && Nat.beq ((b.getD i 0) &&& (2 ^ k - 1)) (2 ^ k - 1))).getD n

/-- May the region's operations be carried out in any order that its edges allow? (The effects stand one behind the other, but for the tail's stores; each slot is written once, and each look at it ordered against that.) -/
def orderly (ops : List Oper) : Bool :=
  let b := befores ops
  let zs := ops.zipIdx
  (zs.all fun (o, i) => o.after.toList.all fun e => !Region.binds .any e || Nat.blt e.on i) &&
  chained P ops (tailOf P ops) &&
  (zs.all fun (o, i) => match o.dst with
    | some d => zs.all fun (o', j) => Nat.beq i j || (o'.dst != some d && (!(looksA ops o').contains d || (b.getD j 0).testBit i || (b.getD i 0).testBit j))
    | none => true) &&
  (zs.all fun (o, _) => match o.dst with
    | some d => !(looksA ops o).contains d
    | none => true) &&
  (zs.all fun (o, i) => match o.guard with
    | some (g, _) => (b.getD i 0).testBit g
    | none => true)

/-- How many effects must, how many may stand ahead of operation i. -/
def window (ops : List Oper) (i : Nat) : Nat × Nat :=
  let b := befores ops
  let em := effMask P ops
  let n := ops.length
  (cntB (fun k => (b.getD i 0).testBit k && em.testBit k) n, cntB (fun k => em.testBit k && !Nat.beq k i && !(b.getD k 0).testBit i) n)

def windows (ops : List Oper) : List (Nat × Nat) := (List.range ops.length).map (window P ops)

def agree (hs : List Hp) (r : Rd) : Bool :=
  (hs.zipIdx).all fun (h, j) => !(Nat.ble r.lo j && Nat.ble j r.hi) || (match readOp P G r.fr h r.o with | some v => beqV (depA r.v + 1) v r.v | none => false)

/-- What is known of calls, and of operations on values that stand for numbers not known. -/
structure Hook where
  call : FuncId → List AVal → Hp → Option (Option (AVal × Hp))
  bin : BinOp → AVal → AVal → Option AVal
def Hook.none : Hook := ⟨fun _ _ _ => Option.none, fun _ _ _ => Option.none⟩

/-- What is made of a region ahead of carrying it out. -/
structure Plan where
  base : Nat
  tail : Nat
  pre : List Nat
  ws : List (Nat × Nat)
def planOf (ops : List Oper) (base : Nat) : Plan := ⟨base, tailOf P ops, befores ops, windows P ops⟩
/-- A region under way: slots, memory, blocks that are made and that no effect has to do with yet, memories behind each effect, reads. -/
structure DS where
  fr : T AVal
  h : Hp
  pend : List (Nat × Blk)
  hs : List Hp
  rds : List Rd
def publish (base mask : Nat) : List (Nat × Blk) → Hp → Hp
  | [], h => h
  | (i, b) :: l, h => bif mask.testBit i then (publish base mask l h).put (base + i) b else publish base mask l h
def publishAll (base : Nat) : List (Nat × Blk) → Hp → Hp
  | [], h => h
  | (i, b) :: l, h => (publishAll base l h).put (base + i) b
/-- The tail's stores, each to a block of its own. -/
def evalTail (ops : List Oper) : List Oper → T AVal → Hp → List Nat → Option (T AVal × Hp)
  | [], fr, h, _ => some (fr, h)
  | o :: l, fr, h, met =>
    bif wantedA ops fr o then match o.op with
      | .store t a x => match opdA fr a, opdA fr x with
        | some (.ptr b off), some v => bif met.contains b then none else match storeA P h t (.ptr b off) v with
          | some h' => evalTail ops l (putA fr o.dst .undef) h' (b :: met)
          | none => none
        | _, _ => none
      | _ => match pureOp P fr o with
        | some v => evalTail ops l (putA fr o.dst v) h met
        | none => none
    else evalTail ops l (putA fr o.dst .undef) h met

structure Res where
  ex : Ex
  fr : T AVal
  h : Hp

def initFr : List AVal → Nat → T AVal → T AVal
  | [], _, t => t
  | v :: l, i, t => initFr l (i + 1) (t.set i v)

def resultA (h : Hp) (fr : T AVal) : ResultVar → Option AVal
  | .tmp t => some ((fr.get t).getD .undef)
  | .cell a t => loadA P h t ((fr.get a).getD .undef)
def resultsA (h : Hp) (fr : T AVal) : List ResultVar → Option (List AVal)
  | [] => some []
  | r :: l => do pure ((← resultA P h fr r) :: (← resultsA h fr l))

variable (H : Hook)
mutual
def evalOp : Nat → T AVal → Hp → Oper → Option (AVal × Hp)
  | 0, _, _, _ => none
  | n + 1, fr, h, o => match kindOf P o with
    | .pure => match pureOp P fr o with
      | some v => some (v, h)
      | none => match o.op with
        | .binOp op _ x y _ => match opdA fr x, opdA fr y with
          | some a, some b => match H.bin op a b with
            | some v => some (v, h)
            | none => none
          | _, _ => none
        | _ => none
    | .read => (readOp P G fr h o).map fun v => (v, h)
    | .alloc => (allocOp P fr h.next o).map fun (v, b) => (v, h.new b)
    | .eff => match o.op with
      | .call c => match c.callee with
        | .builtin _ => effOp P fr h o
        | _ => match targetA P fr c with
          | some (f, args) => evalCall n f args h
          | none => none
      | _ => effOp P fr h o
def evalOps : Nat → List Oper → List Oper → T AVal → Hp → Option (T AVal × Hp)
  | 0, _, _, _, _ => none
  | _ + 1, _, [], fr, h => some (fr, h)
  | n + 1, ops, o :: l, fr, h =>
    bif wantedA ops fr o then match evalOp n fr h o with
      | some (v, h) => evalOps n ops l (putA fr o.dst v) h
      | none => none
    else evalOps n ops l (putA fr o.dst .undef) h
/-- A region in any order: carried out in the text's, all memories on the way kept, and all reads. -/
def evalDraw : Nat → List Oper → List Oper → Plan → Nat → DS → Option DS
  | 0, _, _, _, _, _ => none
  | _ + 1, _, [], _, _, s => some s
  | n + 1, ops, o :: l, p, i, s =>
    bif wantedA ops s.fr o then match kindOf P o with
      | .pure => match pureOp P s.fr o with
        | some v => evalDraw n ops l p (i + 1) { s with fr := putA s.fr o.dst v }
        | none => none
      | .read => match readOp P G s.fr s.h o with
        | some v => evalDraw n ops l p (i + 1) { s with fr := putA s.fr o.dst v, rds := ⟨o, s.fr, v, (p.ws.getD i (0, 0)).1, (p.ws.getD i (0, 0)).2⟩ :: s.rds }
        | none => none
      | .alloc => match allocOp P s.fr (p.base + i) o with
        | some (v, b) => evalDraw n ops l p (i + 1) { s with fr := putA s.fr o.dst v, pend := (i, b) :: s.pend }
        | none => none
      | .eff => match evalOp n s.fr (publish p.base (p.pre.getD i 0) s.pend s.h) o with
        | some (v, h') => evalDraw n ops l p (i + 1) { s with fr := putA s.fr o.dst v, h := h', hs := s.hs ++ [s.h], pend := s.pend.filter fun x => !(p.pre.getD i 0).testBit x.1 }
        | none => none
    else match kindOf P o with
      | .eff => evalDraw n ops l p (i + 1) { s with fr := putA s.fr o.dst .undef, hs := s.hs ++ [s.h] }
      | _ => evalDraw n ops l p (i + 1) { s with fr := putA s.fr o.dst .undef }
def evalCode : Nat → Code → T AVal → Hp → Option Res
  | 0, _, _, _ => none
  | n + 1, c, fr, h => match c with
    | .skip | .label _ => some ⟨.normal, fr, h⟩
    | .region _ ops false => match evalOps n ops.toList ops.toList fr h with
      | some (fr, h) => some ⟨.normal, fr, h⟩
      | none => none
    | .region _ ops true =>
      let l := ops.toList
      let p := planOf P l h.next
      bif orderly P l then match evalDraw n l (l.take p.tail) p 0 ⟨fr, ⟨h.t, h.next + l.length⟩, [], [], []⟩ with
        | some s => bif s.rds.all (agree P G (s.hs ++ [s.h])) then
            match evalTail P l (l.drop p.tail) s.fr (publishAll p.base s.pend s.h) [] with
            | some (fr, h) => some ⟨.normal, fr, h⟩
            | none => none
          else none
        | none => none
      else none
    | .seq a b => match evalCode n a fr h with
      | some ⟨.normal, fr, h⟩ => evalCode n b fr h
      | r => r
    | .cond c a b => match opdA fr c with
      | some (.bool true) => evalCode n a fr h
      | some (.bool false) => evalCode n b fr h
      | _ => none
    | .block id b => match evalCode n b fr h with
      | some ⟨.exit id', fr, h⟩ => bif Nat.beq id' id then some ⟨.normal, fr, h⟩ else some ⟨.exit id', fr, h⟩
      | r => r
    | .loop b => match evalCode n b fr h with
      | some ⟨.normal, fr, h⟩ => evalCode n (.loop b) fr h
      | r => r
    | .scope b => match evalCode n b fr h with
      | some ⟨.goto _, _, _⟩ => none
      | r => r
    | .exit id => some ⟨.exit id, fr, h⟩
    | .ret => some ⟨.ret, fr, h⟩
    | _ => none
def evalCall : Nat → FuncId → List AVal → Hp → Option (AVal × Hp)
  | 0, _, _, _ => none
  | n + 1, f, args, h => match H.call f args h with
    | some r => r
    | none => match P.funcs[f]? with
      | some fn => match fn.body with
        | none => match extOf fn with
          | some k => evalExt P k fn args h
          | none => none
        | some c => match evalCode n c (initFr args 0 .e) h with
          | some ⟨.normal, fr, h⟩ | some ⟨.ret, fr, h⟩ => match resultsA P h fr fn.results.toList with
            | some [v] => some (v, h)
            | some vs => some (.tuple vs, h)
            | none => none
          | _ => none
      | none => none
end
end
end
end Go.Ae
/- Lemmas on tries and on texts as numbers. -/
set_option linter.unusedVariables false
set_option linter.unusedSimpArgs false
namespace Go.Ae
open Go

theorem get_fillT : ∀ (l : List AVal) (i : Nat) (t : T AVal) (j : Nat), (fillT l i t).get j = if i ≤ j ∧ j < i + l.length then l[j - i]? else t.get j
  | [], i, t, j => by simp [fillT]; omega
  | c :: l, i, t, j => by
    rw [fillT, get_fillT l (i + 1), T.get_set]
    by_cases h : i = j
    · subst h; rw [if_neg (by omega), if_pos rfl, if_pos (by simp)]; simp
    · by_cases h2 : i + 1 ≤ j ∧ j < i + 1 + l.length
      · rw [if_pos h2, if_pos (by simp only [List.length_cons]; omega)]
        have : j - i = (j - (i + 1)) + 1 := by omega
        rw [this, List.getElem?_cons_succ]
      · rw [if_neg h2, if_neg h, if_neg (by simp only [List.length_cons]; omega)]

theorem readT_some : ∀ (n i : Nat) (t : T AVal) (l : List AVal), readT t n i = some l → l.length = n ∧ ∀ j, j < n → t.get (i + j) = l[j]?
  | 0, i, t, l, h => by simp only [readT, Option.some.injEq] at h; subst h; exact ⟨rfl, fun j hj => by omega⟩
  | n + 1, i, t, l, h => by
    simp only [readT] at h
    cases h1 : t.get i with
    | none => rw [h1] at h; cases h
    | some c =>
      cases h2 : readT t n (i + 1) with
      | none => rw [h1, h2] at h; cases h
      | some m =>
        rw [h1, h2] at h
        cases h
        obtain ⟨hl, hg⟩ := readT_some n (i + 1) t m h2
        refine ⟨by simp [hl], fun j hj => ?_⟩
        cases j with
        | zero => simpa using h1
        | succ j => rw [List.getElem?_cons_succ, ← hg j (by omega)]; congr 1; omega

theorem known_spec : ∀ (n i : Nat) (t : T AVal), known t n i = true → ∀ j, j < n → ∃ v, t.get (i + j) = some v
  | 0, i, t, _, j, hj => by omega
  | n + 1, i, t, h, j, hj => by
    simp only [known] at h
    cases h1 : t.get i with
    | none => rw [h1] at h; cases h
    | some c =>
      rw [h1] at h
      cases j with
      | zero => exact ⟨c, h1⟩
      | succ j =>
        obtain ⟨v, hv⟩ := known_spec n (i + 1) t h j (by omega)
        exact ⟨v, by rw [← hv]; congr 1; omega⟩

/-! Texts. -/
theorem two_pow_8 (n : Nat) : 2 ^ (8 * n) = 256 ^ n := by rw [Nat.pow_mul]
theorem codeOf_lt : ∀ l : List UInt8, codeOf l < 256 ^ l.length
  | [] => by simp [codeOf]
  | b :: l => by
    have := codeOf_lt l
    have hb := b.toNat_lt
    simp only [codeOf, List.length_cons, Nat.pow_succ]
    omega
theorem decode_codeOf : ∀ l : List UInt8, decode l.length (codeOf l) = l
  | [] => rfl
  | b :: l => by
    have hb := b.toNat_lt
    simp only [codeOf, List.length_cons, decode]
    rw [show (b.toNat + 256 * codeOf l) % 256 = b.toNat by omega, show (b.toNat + 256 * codeOf l) / 256 = codeOf l by omega, decode_codeOf l]
    simp
@[simp] theorem decode_length : ∀ n c, (decode n c).length = n
  | 0, _ => rfl
  | n + 1, c => by simp [decode, decode_length n]
theorem codeOf_decode : ∀ (n c : Nat), c < 256 ^ n → codeOf (decode n c) = c
  | 0, c, h => by simp at h; simp [decode, codeOf, h]
  | n + 1, c, h => by
    rw [Nat.pow_succ] at h
    simp only [decode, codeOf]
    rw [codeOf_decode n (c / 256) (by omega)]
    have : (UInt8.ofNat (c % 256)).toNat = c % 256 := by simp
    omega
theorem decode_inj {n a b : Nat} (ha : a < 256 ^ n) (hb : b < 256 ^ n) (h : decode n a = decode n b) : a = b := by
  rw [← codeOf_decode n a ha, h, codeOf_decode n b hb]
theorem decode_get : ∀ (n c i : Nat), i < n → (decode n c)[i]? = some (UInt8.ofNat (byteAt c i))
  | 0, c, i, h => by omega
  | n + 1, c, 0, h => by simp [decode, byteAt]
  | n + 1, c, i + 1, h => by
    simp only [decode, List.getElem?_cons_succ]
    rw [decode_get n (c / 256) i (by omega)]
    congr 2
    unfold byteAt
    rw [Nat.shiftRight_eq_div_pow, Nat.shiftRight_eq_div_pow, two_pow_8, two_pow_8, Nat.pow_succ, Nat.div_div_eq_div_mul, Nat.mul_comm]
theorem decode_drop : ∀ (l n c : Nat), l ≤ n → (decode n c).drop l = decode (n - l) (c / 256 ^ l)
  | 0, n, c, h => by simp
  | l + 1, 0, c, h => by omega
  | l + 1, n + 1, c, h => by
    simp only [decode, List.drop_succ_cons]
    rw [decode_drop l n (c / 256) (by omega), Nat.div_div_eq_div_mul, Nat.pow_succ, Nat.mul_comm 256]
    congr 1
    omega
theorem decode_mod : ∀ (k c : Nat), decode k (c % 256 ^ k) = decode k c
  | 0, c => rfl
  | k + 1, c => by
    simp only [decode]
    have h1 : c % 256 ^ (k + 1) % 256 = c % 256 := by
      rw [Nat.mod_mod_of_dvd]; exact ⟨256 ^ k, by rw [Nat.pow_succ, Nat.mul_comm]⟩
    have h2 : c % 256 ^ (k + 1) / 256 = (c / 256) % 256 ^ k := by
      rw [Nat.pow_succ, Nat.mul_comm, Nat.mod_mul_right_div_self]
    rw [h1, h2, decode_mod k]
theorem decode_take : ∀ (k n c : Nat), k ≤ n → (decode n c).take k = decode k c
  | 0, n, c, h => by simp [decode]
  | k + 1, 0, c, h => by omega
  | k + 1, n + 1, c, h => by simp only [decode, List.take_succ_cons]; rw [decode_take k n _ (by omega)]
theorem decode_cut (n c l h : Nat) (h1 : l ≤ h) (h2 : h ≤ n) : decode (h - l) (cut c l h) = ((decode n c).drop l).take (h - l) := by
  unfold cut
  rw [decode_drop l n c (by omega), decode_take _ _ _ (by omega), Nat.shiftRight_eq_div_pow, two_pow_8, two_pow_8, decode_mod]
theorem cut_lt (c l h : Nat) : cut c l h < 256 ^ (h - l) := by
  unfold cut
  rw [two_pow_8]
  exact Nat.mod_lt _ (Nat.pow_pos (by omega))
theorem decode_append : ∀ (n m a b : Nat), a < 256 ^ n → decode (n + m) (a + b <<< (8 * n)) = decode n a ++ decode m b
  | 0, m, a, b, h => by
    simp at h
    subst h
    simp [decode]
  | n + 1, m, a, b, h => by
    have h' : a / 256 < 256 ^ n := by rw [Nat.pow_succ] at h; omega
    rw [show n + 1 + m = (n + m) + 1 by omega]
    simp only [decode, List.cons_append]
    have hs : b <<< (8 * (n + 1)) = 256 * (b <<< (8 * n)) := by
      rw [Nat.shiftLeft_eq, Nat.shiftLeft_eq, two_pow_8, two_pow_8, Nat.pow_succ]
      simp only [Nat.mul_comm, Nat.mul_left_comm]
    rw [hs, show (a + 256 * (b <<< (8 * n))) % 256 = a % 256 by omega, show (a + 256 * (b <<< (8 * n))) / 256 = a / 256 + b <<< (8 * n) by omega, decode_append n m _ _ h']
theorem append_lt {n m a b : Nat} (ha : a < 256 ^ n) (hb : b < 256 ^ m) : a + b <<< (8 * n) < 256 ^ (n + m) := by
  rw [Nat.shiftLeft_eq, two_pow_8, Nat.pow_add]
  have h1 : b + 1 ≤ 256 ^ m := hb
  calc a + b * 256 ^ n < 256 ^ n + b * 256 ^ n := by omega
    _ = (b + 1) * 256 ^ n := by rw [Nat.add_mul, Nat.one_mul, Nat.add_comm]
    _ ≤ 256 ^ m * 256 ^ n := Nat.mul_le_mul_right _ h1
    _ = 256 ^ n * 256 ^ m := Nat.mul_comm _ _
end Go.Ae
/- The evaluator's answer does not hang on how much fuel it was given. No condition. -/
set_option linter.unusedVariables false
set_option linter.unusedSimpArgs false
namespace Go.Ae
open Go
section
variable {P : Program} {G : Nat → Option AVal} {H : Hook}

structure Mono (P : Program) (G : Nat → Option AVal) (H : Hook) (n m : Nat) : Prop where
  op : ∀ {fr h o r}, evalOp P G H n fr h o = some r → evalOp P G H m fr h o = some r
  ops : ∀ {ops l fr h r}, evalOps P G H n ops l fr h = some r → evalOps P G H m ops l fr h = some r
  draw : ∀ {ops l p i s r}, evalDraw P G H n ops l p i s = some r → evalDraw P G H m ops l p i s = some r
  code : ∀ {c fr h r}, evalCode P G H n c fr h = some r → evalCode P G H m c fr h = some r
  call : ∀ {f args h r}, evalCall P G H n f args h = some r → evalCall P G H m f args h = some r

theorem mono_zero (m : Nat) : Mono P G H 0 m where
  op := fun h => by simp [evalOp] at h
  ops := fun h => by simp [evalOps] at h
  draw := fun h => by simp [evalDraw] at h
  code := fun h => by simp [evalCode] at h
  call := fun h => by simp [evalCall] at h

theorem mono_succ {n m : Nat} (ih : Mono P G H n m) : Mono P G H (n + 1) (m + 1) where
  op := fun {fr h o r} he => by
    unfold evalOp at he ⊢
    split at he
    · exact he
    · exact he
    · exact he
    · split at he
      · split at he
        · exact he
        · split at he
          · exact ih.call he
          · cases he
      · exact he
  ops := fun {ops l fr h r} he => by
    cases l with
    | nil => simpa [evalOps] using he
    | cons o l =>
      unfold evalOps at he ⊢
      cases hw : wantedA ops fr o with
      | true =>
        rw [hw, cond_true] at he; rw [cond_true]
        split at he
        · rename_i v h' ho; rw [ih.op ho]; exact ih.ops he
        · cases he
      | false => rw [hw, cond_false] at he; rw [cond_false]; exact ih.ops he
  draw := fun {ops l p i s r} he => by
    cases l with
    | nil => simpa [evalDraw] using he
    | cons o l =>
      unfold evalDraw at he ⊢
      cases hw : wantedA ops s.fr o with
      | true =>
        rw [hw, cond_true] at he; rw [cond_true]
        split at he
        · split at he
          · exact ih.draw he
          · cases he
        · split at he
          · exact ih.draw he
          · cases he
        · split at he
          · exact ih.draw he
          · cases he
        · split at he
          · rename_i v h' ho; rw [ih.op ho]; exact ih.draw he
          · cases he
      | false =>
        rw [hw, cond_false] at he; rw [cond_false]
        split at he
        · exact ih.draw he
        · exact ih.draw he
  code := fun {c fr h r} he => by
    unfold evalCode at he ⊢
    cases c with
    | region id ops d =>
      cases d with
      | false =>
        simp only at he ⊢
        split at he
        · rename_i x y ho; rw [ih.ops ho]; exact he
        · cases he
      | true =>
        simp only at he ⊢
        cases ho : orderly P ops.toList with
        | false => rw [ho] at he; cases he
        | true =>
          rw [ho, cond_true] at he; rw [cond_true]
          split at he
          · rename_i s hs; rw [ih.draw hs]; exact he
          · cases he
    | seq a b =>
      simp only at he ⊢
      cases ha : evalCode P G H n a fr h with
      | none => rw [ha] at he; cases he
      | some ra =>
        rw [ha] at he; rw [ih.code ha]
        obtain ⟨ex, f', h'⟩ := ra
        cases ex with
        | normal => exact ih.code he
        | _ => exact he
    | cond x a b =>
      simp only at he ⊢
      split at he
      · exact ih.code he
      · exact ih.code he
      · cases he
    | block id b =>
      simp only at he ⊢
      cases ha : evalCode P G H n b fr h with
      | none => rw [ha] at he; cases he
      | some ra => rw [ha] at he; rw [ih.code ha]; exact he
    | loop b =>
      simp only at he ⊢
      cases ha : evalCode P G H n b fr h with
      | none => rw [ha] at he; cases he
      | some ra =>
        rw [ha] at he; rw [ih.code ha]
        obtain ⟨ex, f', h'⟩ := ra
        cases ex with
        | normal => exact ih.code he
        | _ => exact he
    | scope b =>
      simp only at he ⊢
      cases ha : evalCode P G H n b fr h with
      | none => rw [ha] at he; cases he
      | some ra => rw [ha] at he; rw [ih.code ha]; exact he
    | _ => exact he
  call := fun {f args h r} he => by
    unfold evalCall at he ⊢
    split at he
    · exact he
    · split at he
      · split at he
        · exact he
        · split at he
          · rename_i f' h' hc; rw [ih.code hc]; exact he
          · rename_i f' h' hc; rw [ih.code hc]; exact he
          · cases he
      · cases he

theorem mono_add (P : Program) (G : Nat → Option AVal) (H : Hook) (k : Nat) : ∀ n, Mono P G H n (n + k)
  | 0 => mono_zero _
  | n + 1 => by
    have e : n + 1 + k = (n + k) + 1 := by omega
    rw [e]; exact mono_succ (mono_add P G H k n)
theorem mono (P : Program) (G : Nat → Option AVal) (H : Hook) {n m : Nat} (h : n ≤ m) : Mono P G H n m := by
  obtain ⟨k, rfl⟩ := Nat.exists_eq_add_of_le h
  exact mono_add P G H k n
end
end Go.Ae
