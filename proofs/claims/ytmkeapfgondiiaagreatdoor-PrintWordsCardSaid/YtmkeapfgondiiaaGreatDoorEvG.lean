/- The evaluator once more, in a form that the kernel runs quickly: code is first turned into closures (types looked up, moves struck out), then run with continuations. No condition. -/
import Derived.Test.YtmkeapfgondiiaaGreatDoorEvA
set_option linter.unusedVariables false
namespace Go.Ae
open Go
noncomputable section

/-- What a run comes to: a value and the memory, or why it gave up. -/
inductive Out where
  | ok (v : AVal) (h : Hp)
  | bad (why : Nat)
/-- A value, and what it is at a glance. -/
structure V where
  (tag a b c d : Nat) (t : Bool) (v : AVal)
def V.undef : V := ⟨(nat_lit 0), (nat_lit 0), (nat_lit 0), (nat_lit 0), (nat_lit 0), false, .tuple []⟩
def V.ofB (b : Bool) : V := ⟨(nat_lit 1), (nat_lit 0), (nat_lit 0), (nat_lit 0), (nat_lit 0), b, .bool b⟩
def V.ofI (n : Nat) : V := ⟨(nat_lit 13), n, (nat_lit 0), (nat_lit 0), (nat_lit 0), false, .int .i64 (.ofNat n)⟩
def V.ofU8 (n : Nat) : V := ⟨(nat_lit 14), n, (nat_lit 0), (nat_lit 0), (nat_lit 0), false, .int .u8 (.ofNat n)⟩
def V.ofS (n c : Nat) : V := ⟨(nat_lit 4), n, c, (nat_lit 0), (nat_lit 0), false, .str n c⟩
def V.ofP (b o : Nat) : V := ⟨(nat_lit 5), b, o, (nat_lit 0), (nat_lit 0), false, .ptr b o⟩
def V.ofT (l : List AVal) : V := ⟨(nat_lit 0), (nat_lit 0), (nat_lit 0), (nat_lit 0), (nat_lit 0), false, .tuple l⟩
def kcode (k : IntKind) : Nat := IntKind.rec (nat_lit 10) (nat_lit 11) (nat_lit 12) (nat_lit 13) (nat_lit 14) (nat_lit 15) (nat_lit 16) (nat_lit 17) k
def V.of (v : AVal) : V := @AVal.rec (fun _ => V) (fun _ => Unit) (fun b => ⟨(nat_lit 1), (nat_lit 0), (nat_lit 0), (nat_lit 0), (nat_lit 0), b, .bool b⟩) (fun k n => Int.rec (motive := fun _ => IntKind → V) (fun m k => ⟨kcode k, m, 0, 0, 0, false, .int k (.ofNat m)⟩) (fun m k => ⟨(nat_lit 0), (nat_lit 0), (nat_lit 0), (nat_lit 0), (nat_lit 0), false, .int k (.negSucc m)⟩) n k) (fun n c => ⟨(nat_lit 4), n, c, (nat_lit 0), (nat_lit 0), false, .str n c⟩) (fun b o => ⟨(nat_lit 5), b, o, (nat_lit 0), (nat_lit 0), false, .ptr b o⟩) (fun g o => ⟨(nat_lit 0), (nat_lit 0), (nat_lit 0), (nat_lit 0), (nat_lit 0), false, (.gptr g o)⟩) (⟨(nat_lit 0), (nat_lit 0), (nat_lit 0), (nat_lit 0), (nat_lit 0), false, .nilptr⟩) (fun b o l c e s => ⟨(nat_lit 6), b, o, l, s, false, .slice b o l c e s⟩) (⟨(nat_lit 7), (nat_lit 0), (nat_lit 0), (nat_lit 0), (nat_lit 0), false, .nilslice⟩) (fun b => ⟨(nat_lit 0), (nat_lit 0), (nat_lit 0), (nat_lit 0), (nat_lit 0), false, (.map b)⟩) (⟨(nat_lit 0), (nat_lit 0), (nat_lit 0), (nat_lit 0), (nat_lit 0), false, .nilmap⟩) (fun f x y _ _ => ⟨(nat_lit 0), (nat_lit 0), (nat_lit 0), (nat_lit 0), (nat_lit 0), false, (.func f x y)⟩) (⟨(nat_lit 0), (nat_lit 0), (nat_lit 0), (nat_lit 0), (nat_lit 0), false, .nilfunc⟩) (fun t v _ => ⟨(nat_lit 0), (nat_lit 0), (nat_lit 0), (nat_lit 0), (nat_lit 0), false, (.iface t v)⟩) (⟨(nat_lit 0), (nat_lit 0), (nat_lit 0), (nat_lit 0), (nat_lit 0), false, .niliface⟩) (fun cs _ => ⟨(nat_lit 0), (nat_lit 0), (nat_lit 0), (nat_lit 0), (nat_lit 0), false, (.agg cs)⟩) (fun vs _ => ⟨(nat_lit 0), (nat_lit 0), (nat_lit 0), (nat_lit 0), (nat_lit 0), false, (.tuple vs)⟩) (fun i => ⟨(nat_lit 0), (nat_lit 0), (nat_lit 0), (nat_lit 0), (nat_lit 0), false, (.opq i)⟩) () (fun _ _ _ _ => ()) v
/-- A frame. -/
structure FR where
  (a : V8 (V8 V)) (b : V8 (V8 (V8 (V8 V))))
def FR.e : FR := ⟨.all (.all .undef), .all (.all (.all (.all .undef)))⟩
def FR.upA (f : V8 (V8 V) → V8 (V8 V)) (fr : FR) : FR := FR.rec (fun a b => ⟨f a, b⟩) fr
def FR.upB (f : V8 (V8 (V8 (V8 V))) → V8 (V8 (V8 (V8 V)))) (fr : FR) : FR := FR.rec (fun a b => ⟨a, f b⟩) fr
/-- The values of a region's own, the last first: so many. -/
structure PairT (α : Type) where
  (v : V) (r : α)
def EnvT (n : Nat) : Type := Nat.rec Unit (fun _ α => PairT α) n

def env0 : EnvT 0 := ()
abbrev KV := V → Hp → Out
abbrev KF := FR → V → Hp → Out
abbrev KS := FR → Hp → Out
abbrev KX := Nat → FR → Hp → Out
abbrev CallF := FuncId → List AVal → FR → Hp → KV → Out
structure EV where
  (P : Program) (G : Nat → Option AVal) (H : Hook) (call : CallF)
/-- Operands, slots to be written, operations, regions, code: closures. -/
structure XF (n : Nat) where
  ev : FR → EnvT n → V
structure SPF where
  put : V → FR → FR
structure JF (n : Nat) where
  run : EV → FR → EnvT n → Hp → KV → Out
structure OF (n : Nat) where
  run : EV → FR → EnvT n → Hp → KF → Out
structure CF where
  run : EV → FR → Hp → KS → KX → KS → Out
structure FD where
  run : EV → List AVal → FR → Hp → KV → Out
def xA (x : D8) : D8 → (n : Nat) → XF n := D8.rec (motive := fun _ => D8 → (n : Nat) → XF n) (fun y => D8.rec (motive := fun _ => (n : Nat) → XF n) (fun n => ⟨fun fr (_ : EnvT n) => fr.a.c0.c0⟩) (fun n => ⟨fun fr (_ : EnvT n) => fr.a.c0.c1⟩) (fun n => ⟨fun fr (_ : EnvT n) => fr.a.c0.c2⟩) (fun n => ⟨fun fr (_ : EnvT n) => fr.a.c0.c3⟩) (fun n => ⟨fun fr (_ : EnvT n) => fr.a.c0.c4⟩) (fun n => ⟨fun fr (_ : EnvT n) => fr.a.c0.c5⟩) (fun n => ⟨fun fr (_ : EnvT n) => fr.a.c0.c6⟩) (fun n => ⟨fun fr (_ : EnvT n) => fr.a.c0.c7⟩) y) (fun y => D8.rec (motive := fun _ => (n : Nat) → XF n) (fun n => ⟨fun fr (_ : EnvT n) => fr.a.c1.c0⟩) (fun n => ⟨fun fr (_ : EnvT n) => fr.a.c1.c1⟩) (fun n => ⟨fun fr (_ : EnvT n) => fr.a.c1.c2⟩) (fun n => ⟨fun fr (_ : EnvT n) => fr.a.c1.c3⟩) (fun n => ⟨fun fr (_ : EnvT n) => fr.a.c1.c4⟩) (fun n => ⟨fun fr (_ : EnvT n) => fr.a.c1.c5⟩) (fun n => ⟨fun fr (_ : EnvT n) => fr.a.c1.c6⟩) (fun n => ⟨fun fr (_ : EnvT n) => fr.a.c1.c7⟩) y) (fun y => D8.rec (motive := fun _ => (n : Nat) → XF n) (fun n => ⟨fun fr (_ : EnvT n) => fr.a.c2.c0⟩) (fun n => ⟨fun fr (_ : EnvT n) => fr.a.c2.c1⟩) (fun n => ⟨fun fr (_ : EnvT n) => fr.a.c2.c2⟩) (fun n => ⟨fun fr (_ : EnvT n) => fr.a.c2.c3⟩) (fun n => ⟨fun fr (_ : EnvT n) => fr.a.c2.c4⟩) (fun n => ⟨fun fr (_ : EnvT n) => fr.a.c2.c5⟩) (fun n => ⟨fun fr (_ : EnvT n) => fr.a.c2.c6⟩) (fun n => ⟨fun fr (_ : EnvT n) => fr.a.c2.c7⟩) y) (fun y => D8.rec (motive := fun _ => (n : Nat) → XF n) (fun n => ⟨fun fr (_ : EnvT n) => fr.a.c3.c0⟩) (fun n => ⟨fun fr (_ : EnvT n) => fr.a.c3.c1⟩) (fun n => ⟨fun fr (_ : EnvT n) => fr.a.c3.c2⟩) (fun n => ⟨fun fr (_ : EnvT n) => fr.a.c3.c3⟩) (fun n => ⟨fun fr (_ : EnvT n) => fr.a.c3.c4⟩) (fun n => ⟨fun fr (_ : EnvT n) => fr.a.c3.c5⟩) (fun n => ⟨fun fr (_ : EnvT n) => fr.a.c3.c6⟩) (fun n => ⟨fun fr (_ : EnvT n) => fr.a.c3.c7⟩) y) (fun y => D8.rec (motive := fun _ => (n : Nat) → XF n) (fun n => ⟨fun fr (_ : EnvT n) => fr.a.c4.c0⟩) (fun n => ⟨fun fr (_ : EnvT n) => fr.a.c4.c1⟩) (fun n => ⟨fun fr (_ : EnvT n) => fr.a.c4.c2⟩) (fun n => ⟨fun fr (_ : EnvT n) => fr.a.c4.c3⟩) (fun n => ⟨fun fr (_ : EnvT n) => fr.a.c4.c4⟩) (fun n => ⟨fun fr (_ : EnvT n) => fr.a.c4.c5⟩) (fun n => ⟨fun fr (_ : EnvT n) => fr.a.c4.c6⟩) (fun n => ⟨fun fr (_ : EnvT n) => fr.a.c4.c7⟩) y) (fun y => D8.rec (motive := fun _ => (n : Nat) → XF n) (fun n => ⟨fun fr (_ : EnvT n) => fr.a.c5.c0⟩) (fun n => ⟨fun fr (_ : EnvT n) => fr.a.c5.c1⟩) (fun n => ⟨fun fr (_ : EnvT n) => fr.a.c5.c2⟩) (fun n => ⟨fun fr (_ : EnvT n) => fr.a.c5.c3⟩) (fun n => ⟨fun fr (_ : EnvT n) => fr.a.c5.c4⟩) (fun n => ⟨fun fr (_ : EnvT n) => fr.a.c5.c5⟩) (fun n => ⟨fun fr (_ : EnvT n) => fr.a.c5.c6⟩) (fun n => ⟨fun fr (_ : EnvT n) => fr.a.c5.c7⟩) y) (fun y => D8.rec (motive := fun _ => (n : Nat) → XF n) (fun n => ⟨fun fr (_ : EnvT n) => fr.a.c6.c0⟩) (fun n => ⟨fun fr (_ : EnvT n) => fr.a.c6.c1⟩) (fun n => ⟨fun fr (_ : EnvT n) => fr.a.c6.c2⟩) (fun n => ⟨fun fr (_ : EnvT n) => fr.a.c6.c3⟩) (fun n => ⟨fun fr (_ : EnvT n) => fr.a.c6.c4⟩) (fun n => ⟨fun fr (_ : EnvT n) => fr.a.c6.c5⟩) (fun n => ⟨fun fr (_ : EnvT n) => fr.a.c6.c6⟩) (fun n => ⟨fun fr (_ : EnvT n) => fr.a.c6.c7⟩) y) (fun y => D8.rec (motive := fun _ => (n : Nat) → XF n) (fun n => ⟨fun fr (_ : EnvT n) => fr.a.c7.c0⟩) (fun n => ⟨fun fr (_ : EnvT n) => fr.a.c7.c1⟩) (fun n => ⟨fun fr (_ : EnvT n) => fr.a.c7.c2⟩) (fun n => ⟨fun fr (_ : EnvT n) => fr.a.c7.c3⟩) (fun n => ⟨fun fr (_ : EnvT n) => fr.a.c7.c4⟩) (fun n => ⟨fun fr (_ : EnvT n) => fr.a.c7.c5⟩) (fun n => ⟨fun fr (_ : EnvT n) => fr.a.c7.c6⟩) (fun n => ⟨fun fr (_ : EnvT n) => fr.a.c7.c7⟩) y) x
def spA (x : D8) : D8 → SPF := D8.rec (motive := fun _ => D8 → SPF) (fun y => D8.rec (motive := fun _ => SPF) ⟨fun v => FR.upA (V8.up0 (V8.up0 fun _ => v))⟩ ⟨fun v => FR.upA (V8.up0 (V8.up1 fun _ => v))⟩ ⟨fun v => FR.upA (V8.up0 (V8.up2 fun _ => v))⟩ ⟨fun v => FR.upA (V8.up0 (V8.up3 fun _ => v))⟩ ⟨fun v => FR.upA (V8.up0 (V8.up4 fun _ => v))⟩ ⟨fun v => FR.upA (V8.up0 (V8.up5 fun _ => v))⟩ ⟨fun v => FR.upA (V8.up0 (V8.up6 fun _ => v))⟩ ⟨fun v => FR.upA (V8.up0 (V8.up7 fun _ => v))⟩ y) (fun y => D8.rec (motive := fun _ => SPF) ⟨fun v => FR.upA (V8.up1 (V8.up0 fun _ => v))⟩ ⟨fun v => FR.upA (V8.up1 (V8.up1 fun _ => v))⟩ ⟨fun v => FR.upA (V8.up1 (V8.up2 fun _ => v))⟩ ⟨fun v => FR.upA (V8.up1 (V8.up3 fun _ => v))⟩ ⟨fun v => FR.upA (V8.up1 (V8.up4 fun _ => v))⟩ ⟨fun v => FR.upA (V8.up1 (V8.up5 fun _ => v))⟩ ⟨fun v => FR.upA (V8.up1 (V8.up6 fun _ => v))⟩ ⟨fun v => FR.upA (V8.up1 (V8.up7 fun _ => v))⟩ y) (fun y => D8.rec (motive := fun _ => SPF) ⟨fun v => FR.upA (V8.up2 (V8.up0 fun _ => v))⟩ ⟨fun v => FR.upA (V8.up2 (V8.up1 fun _ => v))⟩ ⟨fun v => FR.upA (V8.up2 (V8.up2 fun _ => v))⟩ ⟨fun v => FR.upA (V8.up2 (V8.up3 fun _ => v))⟩ ⟨fun v => FR.upA (V8.up2 (V8.up4 fun _ => v))⟩ ⟨fun v => FR.upA (V8.up2 (V8.up5 fun _ => v))⟩ ⟨fun v => FR.upA (V8.up2 (V8.up6 fun _ => v))⟩ ⟨fun v => FR.upA (V8.up2 (V8.up7 fun _ => v))⟩ y) (fun y => D8.rec (motive := fun _ => SPF) ⟨fun v => FR.upA (V8.up3 (V8.up0 fun _ => v))⟩ ⟨fun v => FR.upA (V8.up3 (V8.up1 fun _ => v))⟩ ⟨fun v => FR.upA (V8.up3 (V8.up2 fun _ => v))⟩ ⟨fun v => FR.upA (V8.up3 (V8.up3 fun _ => v))⟩ ⟨fun v => FR.upA (V8.up3 (V8.up4 fun _ => v))⟩ ⟨fun v => FR.upA (V8.up3 (V8.up5 fun _ => v))⟩ ⟨fun v => FR.upA (V8.up3 (V8.up6 fun _ => v))⟩ ⟨fun v => FR.upA (V8.up3 (V8.up7 fun _ => v))⟩ y) (fun y => D8.rec (motive := fun _ => SPF) ⟨fun v => FR.upA (V8.up4 (V8.up0 fun _ => v))⟩ ⟨fun v => FR.upA (V8.up4 (V8.up1 fun _ => v))⟩ ⟨fun v => FR.upA (V8.up4 (V8.up2 fun _ => v))⟩ ⟨fun v => FR.upA (V8.up4 (V8.up3 fun _ => v))⟩ ⟨fun v => FR.upA (V8.up4 (V8.up4 fun _ => v))⟩ ⟨fun v => FR.upA (V8.up4 (V8.up5 fun _ => v))⟩ ⟨fun v => FR.upA (V8.up4 (V8.up6 fun _ => v))⟩ ⟨fun v => FR.upA (V8.up4 (V8.up7 fun _ => v))⟩ y) (fun y => D8.rec (motive := fun _ => SPF) ⟨fun v => FR.upA (V8.up5 (V8.up0 fun _ => v))⟩ ⟨fun v => FR.upA (V8.up5 (V8.up1 fun _ => v))⟩ ⟨fun v => FR.upA (V8.up5 (V8.up2 fun _ => v))⟩ ⟨fun v => FR.upA (V8.up5 (V8.up3 fun _ => v))⟩ ⟨fun v => FR.upA (V8.up5 (V8.up4 fun _ => v))⟩ ⟨fun v => FR.upA (V8.up5 (V8.up5 fun _ => v))⟩ ⟨fun v => FR.upA (V8.up5 (V8.up6 fun _ => v))⟩ ⟨fun v => FR.upA (V8.up5 (V8.up7 fun _ => v))⟩ y) (fun y => D8.rec (motive := fun _ => SPF) ⟨fun v => FR.upA (V8.up6 (V8.up0 fun _ => v))⟩ ⟨fun v => FR.upA (V8.up6 (V8.up1 fun _ => v))⟩ ⟨fun v => FR.upA (V8.up6 (V8.up2 fun _ => v))⟩ ⟨fun v => FR.upA (V8.up6 (V8.up3 fun _ => v))⟩ ⟨fun v => FR.upA (V8.up6 (V8.up4 fun _ => v))⟩ ⟨fun v => FR.upA (V8.up6 (V8.up5 fun _ => v))⟩ ⟨fun v => FR.upA (V8.up6 (V8.up6 fun _ => v))⟩ ⟨fun v => FR.upA (V8.up6 (V8.up7 fun _ => v))⟩ y) (fun y => D8.rec (motive := fun _ => SPF) ⟨fun v => FR.upA (V8.up7 (V8.up0 fun _ => v))⟩ ⟨fun v => FR.upA (V8.up7 (V8.up1 fun _ => v))⟩ ⟨fun v => FR.upA (V8.up7 (V8.up2 fun _ => v))⟩ ⟨fun v => FR.upA (V8.up7 (V8.up3 fun _ => v))⟩ ⟨fun v => FR.upA (V8.up7 (V8.up4 fun _ => v))⟩ ⟨fun v => FR.upA (V8.up7 (V8.up5 fun _ => v))⟩ ⟨fun v => FR.upA (V8.up7 (V8.up6 fun _ => v))⟩ ⟨fun v => FR.upA (V8.up7 (V8.up7 fun _ => v))⟩ y) x
def xB (n : Nat) (s3 : SelF (V8 (V8 (V8 V)))) (s2 : SelF (V8 (V8 V))) (s1 : SelF (V8 V)) (s0 : SelF V) : XF n := ⟨fun fr _ => s0.sel (s1.sel (s2.sel (s3.sel fr.b)))⟩
def spB (s3 : SelF (V8 (V8 (V8 V)))) (s2 : SelF (V8 (V8 V))) (s1 : SelF (V8 V)) (s0 : SelF V) : SPF := ⟨fun v => FR.upB (s3.up (s2.up (s1.up (s0.up fun _ => v))))⟩
def xSlot (n t : Nat) : XF n := Bool.rec
  (xB n (selOf _ (dig (Nat.div t (nat_lit 512)))) (selOf _ (dig (Nat.mod (Nat.div t 64) (nat_lit 8)))) (selOf _ (dig (Nat.mod (Nat.div t 8) (nat_lit 8)))) (selOf _ (dig (Nat.mod t (nat_lit 8)))))
  (xA (dig (Nat.div t (nat_lit 8))) (dig (Nat.mod t (nat_lit 8))) n) (Nat.blt t (nat_lit 64))
def spSlot (t : Nat) : SPF := Bool.rec (Bool.rec ⟨fun _ fr => fr⟩
  (spB (selOf _ (dig (Nat.div t (nat_lit 512)))) (selOf _ (dig (Nat.mod (Nat.div t 64) (nat_lit 8)))) (selOf _ (dig (Nat.mod (Nat.div t 8) (nat_lit 8)))) (selOf _ (dig (Nat.mod t (nat_lit 8))))) (Nat.blt t (nat_lit 4096)))
  (spA (dig (Nat.div t (nat_lit 8))) (dig (Nat.mod t (nat_lit 8)))) (Nat.blt t (nat_lit 64))
def xConst (n : Nat) (v : V) : XF n := ⟨fun _ _ => v⟩
def xDown (n : Nat) (x : XF n) : XF (Nat.succ n) := ⟨fun fr (L : PairT (EnvT n)) => x.ev fr L.r⟩
/-- The value so far from the last. -/
def xLoc (i : Nat) : (n : Nat) → XF n := Nat.rec (motive := fun _ => (n : Nat) → XF n)
  (fun n => Nat.rec (motive := fun n => XF n) ⟨fun _ _ => .undef⟩ (fun n _ => ⟨fun _ (L : PairT (EnvT n)) => L.v⟩) n)
  (fun _ ih n => Nat.rec (motive := fun n => XF n) ⟨fun _ _ => .undef⟩ (fun n _ => xDown n (ih n)) n) i
/-- An operation for the slow way: the operation, where its operands stand. -/
structure S (n : Nat) where
  (o : Oper) (b : Option (List (Nat × XF n)))
def bindF {n : Nat} (b : List (Nat × XF n)) (fr : FR) (L : EnvT n) : T AVal := List.rec (motive := fun _ => T AVal) .e (fun p _ ih => ih.set p.1 (p.2.ev fr L).v) b
def scalarA (v : AVal) : Bool := @AVal.rec (fun _ => Bool) (fun _ => Unit) (fun _ => true) (fun _ _ => true) (fun _ _ => true) (fun _ _ => true) (fun _ _ => true) (true) (fun _ _ _ _ _ _ => true) (true) (fun _ => true) (true) (fun _ _ _ _ _ => true) (true) (fun _ _ _ => true) (true) (fun cs _ => false) (fun vs _ => false) (fun _ => true) () (fun _ _ _ _ => ()) v
def partsV (v : AVal) : List AVal := @AVal.rec (fun _ => List AVal) (fun _ => Unit) (fun _ => []) (fun _ _ => []) (fun _ _ => []) (fun _ _ => []) (fun _ _ => []) ([]) (fun _ _ _ _ _ _ => []) ([]) (fun _ => []) ([]) (fun _ _ _ _ _ => []) ([]) (fun _ _ _ => []) ([]) (fun _ _ => []) (fun vs _ => vs) (fun _ => []) () (fun _ _ _ _ => ()) v
def chkF (fn : Fn) (k : Out) : Out := Fn.rec (motive := fun _ => Out → Out) (fun _ k => k) (fun _ _ => .bad 50) (fun _ _ _ => .bad 51) (fun _ _ _ _ _ => .bad 52) (fun _ _ => .bad 53) fn k
def chkA (v : AVal) : Out → Out := @AVal.rec (fun _ => Out → Out) (fun _ => Unit) (fun _ => fun _ => .bad 28) (fun _ _ => fun _ => .bad 28) (fun _ _ => fun _ => .bad 28) (fun b o => fun k => k) (fun g o => fun k => k) (fun _ => .bad 28) (fun _ _ _ _ _ _ => fun _ => .bad 28) (fun _ => .bad 28) (fun _ => fun _ => .bad 28) (fun _ => .bad 28) (fun f x y _ _ => fun k => chkF f k) (fun _ => .bad 28) (fun t v _ => fun k => k) (fun _ => .bad 28) (fun _ _ => fun _ => .bad 28) (fun _ _ => fun _ => .bad 28) (fun _ => fun _ => .bad 28) () (fun _ _ _ _ => ()) v
def funcF (fn : Fn) (k : FuncId → Out) : Out := Fn.rec (motive := fun _ => (FuncId → Out) → Out) (fun f k => k f) (fun _ _ => .bad 54) (fun _ _ _ => .bad 55) (fun _ _ _ _ _ => .bad 56) (fun _ _ => .bad 57) fn k
def funcA (v : AVal) : (FuncId → List AVal → List AVal → Out) → Out := @AVal.rec (fun _ => (FuncId → List AVal → List AVal → Out) → Out) (fun _ => Unit) (fun _ => fun _ => .bad 39) (fun _ _ => fun _ => .bad 39) (fun _ _ => fun _ => .bad 39) (fun _ _ => fun _ => .bad 39) (fun _ _ => fun _ => .bad 39) (fun _ => .bad 39) (fun _ _ _ _ _ _ => fun _ => .bad 39) (fun _ => .bad 39) (fun _ => fun _ => .bad 39) (fun _ => .bad 39) (fun f x y _ _ => fun k => funcF f (fun g => k g x y)) (fun _ => .bad 39) (fun _ _ _ => fun _ => .bad 39) (fun _ => .bad 39) (fun _ _ => fun _ => .bad 39) (fun _ _ => fun _ => .bad 39) (fun _ => fun _ => .bad 39) () (fun _ _ _ _ => ()) v
def ifB (c : Bool) (a b : Out) : Out := Bool.rec b a c
/-- An argument list as a frame. -/
def frOf (l : List AVal) : Nat → FR → FR := List.rec (motive := fun _ => Nat → FR → FR) (fun _ fr => fr) (fun v _ ih i fr => ih (Nat.succ i) ((spSlot i).put (V.of v) fr)) l
def slowT (o : Oper) (f : T AVal) (e : EV) (h : Hp) (k : KV) : Out :=
  match kindOf e.P o with
  | .pure => match pureOp e.P f o with
    | some v => k (V.of v) h
    | none => match o.op with
      | .binOp op _ x y _ => match opdA f x, opdA f y with
        | some a, some b => match e.H.bin op a b with
          | some v => k (V.of v) h
          | none => .bad 1
        | _, _ => .bad 2
      | _ => .bad 3
  | .read => match readOp e.P e.G f h o with
    | some v => k (V.of v) h
    | none => .bad 4
  | .alloc => match allocOp e.P f h.next o with
    | some (v, b) => k (V.of v) (h.new b)
    | none => .bad 5
  | .eff => match o.op with
    | .call c => match c.callee with
      | .builtin _ => match effOp e.P f h o with
        | some (v, h) => k (V.of v) h
        | none => .bad 6
      | _ => match targetA e.P f c with
        | some (g, args) => e.call g args (frOf args (nat_lit 0) .e) h k
        | none => .bad 7
    | _ => match effOp e.P f h o with
      | some (v, h) => k (V.of v) h
      | none => .bad 8
def slowK {n : Nat} (s : S n) (e : EV) (fr : FR) (L : EnvT n) (h : Hp) (k : KV) : Out :=
  Option.rec (motive := fun _ => Out) (.bad 9) (fun b => slowT s.o (bindF b fr L) e h k) s.b

def cellK (h : Hp) (b off : Nat) (K : AVal → Out) : Out :=
  Option.rec (motive := fun _ => (AVal → Out) → Nat → Out) (fun _ _ => .bad 10) (fun blk => Blk.rec (motive := fun _ => (AVal → Out) → Nat → Out)
    (fun _ _ _ t K off => Option.rec (motive := fun _ => (AVal → Out) → Out) (fun _ => .bad 11) (fun v K => K v) (t.get off) K)
    (fun _ _ _ _ => .bad 12) (fun _ _ _ _ _ => .bad 13) (fun _ _ _ _ _ _ => .bad 14) blk) (h.get b) K off
/-- One cell: no row of cells, no tuple. -/
def V.one (x : V) : Bool := Bool.rec true (scalarA x.v) (Nat.beq x.tag 0)
def storeK (h : Hp) (b off : Nat) (v : AVal) (k : KV) : Out :=
  Option.rec (motive := fun _ => KV → Hp → Nat → Nat → AVal → Out) (fun _ _ _ _ _ => .bad 15) (fun blk => Blk.rec (motive := fun _ => KV → Hp → Nat → Nat → AVal → Out)
    (fun e ext fz t k h b off v => Option.rec (motive := fun _ => Out → Out) (fun _ => .bad 16) (fun _ K => K) (t.get off) (ifB (Nat.ble fz off) (k .undef (h.put b (.cells e (Nat.max ext (off + 1)) fz (t.set off v)))) (.bad 17)))
    (fun _ _ _ _ _ _ _ => .bad 19) (fun _ _ _ _ _ _ _ _ => .bad 20) (fun _ _ _ _ _ _ _ _ _ => .bad 21) blk) (h.get b) k h b off v
def evL {n : Nat} (l : List (XF n)) : FR → EnvT n → List AVal := List.rec (motive := fun _ => FR → EnvT n → List AVal) (fun _ _ => []) (fun x _ ih fr L => (x.ev fr L).v :: ih fr L) l
def frX {n : Nat} (l : List (XF n)) : Nat → FR → EnvT n → FR → FR := List.rec (motive := fun _ => Nat → FR → EnvT n → FR → FR) (fun _ _ _ acc => acc) (fun x _ ih i fr L acc => ih (Nat.succ i) fr L ((spSlot i).put (x.ev fr L) acc)) l
def fnK (fn : Fn) : (FuncId → Out) → Out := Fn.rec (motive := fun _ => (FuncId → Out) → Out) (fun f k => k f) (fun _ _ => .bad 21) (fun _ _ _ => .bad 22) (fun _ _ _ _ _ => .bad 23) (fun _ _ => .bad 24) fn
def nthG {α : Type} (l : List α) : Nat → Option α := List.rec (motive := fun _ => Nat → Option α) (fun _ => none) (fun v _ ih i => Nat.rec (some v) (fun i _ => ih i) i) l
def tlG {α : Type} (l : List α) : List α := List.rec (motive := fun _ => List α) [] (fun _ t _ => t) l
def dropC {α : Type} (l : List α) (k : Nat) : List α := Nat.rec l (fun _ ih => tlG (tlG (tlG (tlG (tlG (tlG (tlG (tlG (tlG (tlG (tlG (tlG (tlG (tlG (tlG (tlG ih)))))))))))))))) k
/-- The element of a place, by steps of sixteen. -/
def nthC {α : Type} (l : List α) (n : Nat) : Option α := nthG (dropC l (Nat.div n (nat_lit 16))) (Nat.mod n (nat_lit 16))

section
variable {n : Nat}
/- operations -/
def jBad (why : Nat) : JF n := ⟨fun _ _ _ _ _ => .bad why⟩
def jMov (x : XF n) : JF n := ⟨fun e fr L h k => k (x.ev fr L) h⟩
def jPick (c a b : XF n) : JF n := ⟨fun e fr L h k => ifB (Nat.beq (c.ev fr L).tag 1) (Bool.rec (k (b.ev fr L) h) (k (a.ev fr L) h) (c.ev fr L).t) (.bad 25)⟩
def jLoad (a : XF n) (s : S n) : JF n := ⟨fun e fr L h k => ifB (Nat.beq (a.ev fr L).tag 5) (cellK h (a.ev fr L).a (a.ev fr L).b (fun v => k (V.of v) h)) (slowK s e fr L h k)⟩
def jStore (a x : XF n) (s : S n) : JF n := ⟨fun e fr L h k => ifB (Nat.beq (a.ev fr L).tag 5) (ifB (x.ev fr L).one (storeK h (a.ev fr L).a (a.ev fr L).b (x.ev fr L).v k) (slowK s e fr L h k)) (.bad 26)⟩
def jFaddr (off : Nat) (x : XF n) : JF n := ⟨fun e fr L h k => ifB (Nat.beq (x.ev fr L).tag 5) (k (V.ofP (x.ev fr L).a (Nat.add (x.ev fr L).b off)) h) (.bad 27)⟩
def jChk (x : XF n) : JF n := ⟨fun e fr L h k => ifB (Nat.beq (x.ev fr L).tag 5) (k (x.ev fr L) h) (chkA (x.ev fr L).v (k (x.ev fr L) h))⟩
def jNot (x : XF n) : JF n := ⟨fun e fr L h k => ifB (Nat.beq (x.ev fr L).tag 1) (k (V.ofB (Bool.rec true false (x.ev fr L).t)) h) (.bad 29)⟩
def jCmp (f : Nat → Nat → Bool) (x y : XF n) (s : S n) : JF n := ⟨fun e fr L h k => ifB (Nat.beq (x.ev fr L).tag (y.ev fr L).tag) (ifB (Nat.ble (nat_lit 10) (x.ev fr L).tag) (k (V.ofB (f (x.ev fr L).a (y.ev fr L).a)) h) (slowK s e fr L h k)) (slowK s e fr L h k)⟩
def jAdd (x y : XF n) (s : S n) : JF n := ⟨fun e fr L h k => ifB (Nat.beq (x.ev fr L).tag 13) (ifB (Nat.beq (y.ev fr L).tag 13) (ifB (Nat.blt (Nat.add (x.ev fr L).a (y.ev fr L).a) (nat_lit 9223372036854775808)) (k (V.ofI (Nat.add (x.ev fr L).a (y.ev fr L).a)) h) (slowK s e fr L h k)) (slowK s e fr L h k)) (slowK s e fr L h k)⟩
def jSub (x y : XF n) (s : S n) : JF n := ⟨fun e fr L h k => ifB (Nat.beq (x.ev fr L).tag 13) (ifB (Nat.beq (y.ev fr L).tag 13) (ifB (Nat.ble (y.ev fr L).a (x.ev fr L).a) (ifB (Nat.blt (x.ev fr L).a 9223372036854775808) (k (V.ofI (Nat.sub (x.ev fr L).a (y.ev fr L).a)) h) (slowK s e fr L h k)) (slowK s e fr L h k)) (slowK s e fr L h k)) (slowK s e fr L h k)⟩
def jSeq (neg : Bool) (x y : XF n) (s : S n) : JF n := ⟨fun e fr L h k => ifB (Nat.beq (x.ev fr L).tag 4) (ifB (Nat.beq (y.ev fr L).tag 4)
  (Bool.rec (k (V.ofB neg) h) (k (V.ofB (Bool.rec neg (Bool.rec true false neg) (Nat.beq (x.ev fr L).b (y.ev fr L).b))) h) (Nat.beq (x.ev fr L).a (y.ev fr L).a)) (slowK s e fr L h k)) (slowK s e fr L h k)⟩
def jCat (x y : XF n) (s : S n) : JF n := ⟨fun e fr L h k => ifB (Nat.beq (x.ev fr L).tag 4) (ifB (Nat.beq (y.ev fr L).tag 4) (ifB (Nat.ble (Nat.add (x.ev fr L).a (y.ev fr L).a) (nat_lit 4611686018427387904))
  (k (V.ofS (Nat.add (x.ev fr L).a (y.ev fr L).a) (Nat.add (x.ev fr L).b (Nat.shiftLeft (y.ev fr L).b (Nat.mul (nat_lit 8) (x.ev fr L).a)))) h) (slowK s e fr L h k)) (slowK s e fr L h k)) (slowK s e fr L h k)⟩
def jLenS (x : XF n) (s : S n) : JF n := ⟨fun e fr L h k => ifB (Nat.beq (x.ev fr L).tag 4) (k (V.ofI (x.ev fr L).a) h) (slowK s e fr L h k)⟩
def jLenL (x : XF n) (s : S n) : JF n := ⟨fun e fr L h k => ifB (Nat.beq (x.ev fr L).tag 6) (k (V.ofI (x.ev fr L).c) h) (ifB (Nat.beq (x.ev fr L).tag 7) (k (V.ofI (nat_lit 0)) h) (slowK s e fr L h k))⟩
def jExtract (x : XF n) (i : Nat) : JF n := ⟨fun e fr L h k => Option.rec (motive := fun _ => Out) (.bad 30) (fun v => k (V.of v) h) (nthG (partsV (x.ev fr L).v) i)⟩
def jIdxS (x i : XF n) : JF n := ⟨fun e fr L h k => ifB (Nat.beq (x.ev fr L).tag 4) (ifB (Nat.ble (nat_lit 10) (i.ev fr L).tag) (ifB (Nat.blt (i.ev fr L).a (x.ev fr L).a) (k (V.ofU8 (Nat.mod (Nat.shiftRight (x.ev fr L).b (Nat.mul (nat_lit 8) (i.ev fr L).a)) (nat_lit 256))) h) (.bad 31)) (.bad 32)) (.bad 33)⟩
def jIdxA (size : Nat) (x i : XF n) : JF n := ⟨fun e fr L h k => ifB (Nat.beq (x.ev fr L).tag 6) (ifB (Nat.ble (nat_lit 10) (i.ev fr L).tag) (ifB (Nat.blt (i.ev fr L).a (x.ev fr L).c) (ifB (Nat.beq size (x.ev fr L).d) (k (V.ofP (x.ev fr L).a (Nat.add (x.ev fr L).b (Nat.mul (i.ev fr L).a size))) h) (.bad 34)) (.bad 35)) (.bad 36)) (.bad 37)⟩
def jCall (f : FuncId) (args : List (XF n)) : JF n := ⟨fun e fr L h k => e.call f (evL args fr L) (frX args (nat_lit 0) fr L .e) h k⟩
def jCallv (x : XF n) (args : List (XF n)) : JF n := ⟨fun e fr L h k => funcA (x.ev fr L).v (fun f a c => e.call f (a ++ evL args fr L ++ c) (frOf (a ++ evL args fr L ++ c) 0 .e) h k)⟩
def jSlow (s : S n) : JF n := ⟨fun e fr L h k => slowK s e fr L h k⟩
def gate (v : V) (want : Bool) (a b : Out) : Out := Bool.rec b (Bool.rec (Bool.rec a b want) (Bool.rec b a want) v.t) (Nat.beq v.tag 1)
def oBad (why : Nat) : OF n := ⟨fun _ _ _ _ _ => .bad why⟩
def oNil : OF n := ⟨fun e fr L h k => k fr .undef h⟩
def oFin (x : XF n) : OF n := ⟨fun e fr L h k => k fr (x.ev fr L) h⟩
def oPush (j : JF n) (r : OF (Nat.succ n)) : OF n := ⟨fun e fr L h k => j.run e fr L h (fun v h => r.run e fr (PairT.mk v L) h k)⟩
def oSet (j : JF n) (p : SPF) (r : OF n) : OF n := ⟨fun e fr L h k => j.run e fr L h (fun v h => r.run e (p.put v fr) L h k)⟩
def oEff (j : JF n) (r : OF n) : OF n := ⟨fun e fr L h k => j.run e fr L h (fun _ h => r.run e fr L h k)⟩
def oGPush (g : XF n) (w : Bool) (j : JF n) (r : OF (Nat.succ n)) : OF n := ⟨fun e fr L h k => gate (g.ev fr L) w (j.run e fr L h (fun v h => r.run e fr (PairT.mk v L) h k)) (r.run e fr (PairT.mk .undef L) h k)⟩
def oGSet (g : XF n) (w : Bool) (j : JF n) (p : SPF) (r : OF n) : OF n := ⟨fun e fr L h k => gate (g.ev fr L) w (j.run e fr L h (fun v h => r.run e (p.put v fr) L h k)) (r.run e (p.put .undef fr) L h k)⟩
def oGEff (g : XF n) (w : Bool) (j : JF n) (r : OF n) : OF n := ⟨fun e fr L h k => gate (g.ev fr L) w (j.run e fr L h (fun _ h => r.run e fr L h k)) (r.run e fr L h k)⟩
end

/-- A step of a region in any order, and what is known of it. -/
def drawK (ops : List Oper) (base : Nat) (pre : List Nat) (ws : List (Nat × Nat)) (e : EV) (l : List Oper) : Nat → DS → (DS → Out) → Out := List.rec (motive := fun _ => Nat → DS → (DS → Out) → Out)
  (fun _ s k => k s)
  (fun o _ ih i s k =>
    match wantedA ops s.fr o with
    | true => match kindOf e.P o with
      | .pure => match pureOp e.P s.fr o with
        | some v => ih (Nat.succ i) ⟨putA s.fr o.dst v, s.h, s.pend, s.hs, s.rds⟩ k
        | none => .bad 60
      | .read => match readOp e.P e.G s.fr s.h o with
        | some v => ih (Nat.succ i) ⟨putA s.fr o.dst v, s.h, s.pend, s.hs, ⟨o, s.fr, v, (ws.getD i (0, 0)).1, (ws.getD i (0, 0)).2⟩ :: s.rds⟩ k
        | none => .bad 61
      | .alloc => match allocOp e.P s.fr (base + i) o with
        | some (v, b) => ih (Nat.succ i) ⟨putA s.fr o.dst v, s.h, (i, b) :: s.pend, s.hs, s.rds⟩ k
        | none => .bad 62
      | .eff => slowT o s.fr e (publish base (pre.getD i 0) s.pend s.h) (fun v h' => ih (Nat.succ i) ⟨putA s.fr o.dst v.v, h', s.pend.filter fun x => !(pre.getD i 0).testBit x.1, s.hs ++ [s.h], s.rds⟩ k)
    | false => match kindOf e.P o with
      | .eff => ih (Nat.succ i) ⟨putA s.fr o.dst .undef, s.h, s.pend, s.hs ++ [s.h], s.rds⟩ k
      | _ => ih (Nat.succ i) ⟨putA s.fr o.dst .undef, s.h, s.pend, s.hs, s.rds⟩ k) l
/-- Slots of a frame, as a frame of the elder kind; and back. -/
def takeF (l : List Nat) (fr : FR) : T AVal := List.rec (motive := fun _ => T AVal) .e (fun t _ ih => ih.set t ((xSlot 0 t).ev fr env0).v) l
def giveF (l : List Nat) (f : T AVal) : FR → FR := List.rec (motive := fun _ => FR → FR) (fun fr => fr) (fun t _ ih fr => ih ((spSlot t).put (V.of ((f.get t).getD .undef)) fr)) l
def runD (slots dsts : List Nat) (ops : List Oper) (tail : Nat) (pre : List Nat) (ws : List (Nat × Nat)) (e : EV) (fr : FR) (h : Hp) (k : KS) : Out :=
  drawK ops h.next pre ws e (ops.take tail) 0 ⟨takeF slots fr, ⟨h.t, h.next + ops.length⟩, [], [], []⟩ (fun s =>
    match s.rds.all (agree e.P e.G (s.hs ++ [s.h])) with
    | true => match evalTail e.P ops (ops.drop tail) s.fr (publishAll h.next s.pend s.h) [] with
      | some (f, h) => k (giveF dsts f fr) h
      | none => .bad 66
    | false => .bad 67)

/- code -/
def Hp.bump (h : Hp) (n : Nat) : Hp := ⟨h.t, h.next + n⟩
def cBad (why : Nat) : CF := ⟨fun _ _ _ _ _ _ => .bad why⟩
def cSkip : CF := ⟨fun e fr h kn kx kr => kn fr h⟩
def cOps (l : OF 0) : CF := ⟨fun e fr h kn kx kr => l.run e fr env0 h (fun fr _ h => kn fr h)⟩
def cTest (l : OF 0) (a b : CF) : CF := ⟨fun e fr h kn kx kr => l.run e fr env0 h (fun fr v h => ifB (Nat.beq v.tag 1) (Bool.rec (b.run e fr h kn kx kr) (a.run e fr h kn kx kr) v.t) (.bad 40))⟩
/-- Without calls, without answers on numbers that are not known. -/
def EV.quiet (e : EV) : EV := ⟨e.P, e.G, ⟨e.H.call, fun _ _ _ => none⟩, fun _ _ _ _ _ => .bad 46⟩
def cOpsQ (n : Nat) (l : OF 0) : CF := ⟨fun e fr h kn kx kr => l.run e.quiet fr env0 (h.bump n) (fun fr _ h => kn fr h)⟩
def cTestQ (n : Nat) (l : OF 0) (a b : CF) : CF := ⟨fun e fr h kn kx kr => l.run e.quiet fr env0 (h.bump n) (fun fr v h => ifB (Nat.beq v.tag 1) (Bool.rec (b.run e fr h kn kx kr) (a.run e fr h kn kx kr) v.t) (.bad 40))⟩
def cDraw (slots dsts : List Nat) (ops : List Oper) (tail : Nat) (pre : List Nat) (ws : List (Nat × Nat)) : CF := ⟨fun e fr h kn kx kr => runD slots dsts ops tail pre ws e fr h kn⟩
def cSeq (a b : CF) : CF := ⟨fun e fr h kn kx kr => a.run e fr h (fun fr h => b.run e fr h kn kx kr) kx kr⟩
def cBlock (id : Nat) (b : CF) : CF := ⟨fun e fr h kn kx kr => b.run e fr h kn (fun id' fr h => ifB (Nat.beq id' id) (kn fr h) (kx id' fr h)) kr⟩
def cLoop (b : CF) : CF := ⟨fun e fr h kn kx kr => Nat.rec (motive := fun _ => FR → Hp → Out) (fun _ _ => .bad 42) (fun _ lp fr h => b.run e fr h lp kx kr) 1000000 fr h⟩
def cExit (id : Nat) : CF := ⟨fun e fr h kn kx kr => kx id fr h⟩
def cRet : CF := ⟨fun e fr h kn kx kr => kr fr h⟩
def evV (l : List (XF 0)) (fr : FR) : List AVal := List.rec (motive := fun _ => List AVal) [] (fun x _ ih => (x.ev fr env0).v :: ih) l
def dOne (c : CF) (x : XF 0) : FD := ⟨fun e _ fr h k => c.run e fr h (fun fr h => k (x.ev fr env0) h) (fun _ _ _ => .bad 44) (fun fr h => k (x.ev fr env0) h)⟩
def dMany (c : CF) (l : List (XF 0)) : FD := ⟨fun e _ fr h k => c.run e fr h (fun fr h => k (V.ofT (evV l fr)) h) (fun _ _ _ => .bad 44) (fun fr h => k (V.ofT (evV l fr)) h)⟩
def resT (l : List ResultVar) (slots : List Nat) (e : EV) (fr : FR) (h : Hp) (k : KV) : Out := match resultsA e.P h (takeF slots fr) l with
  | some [v] => k (V.of v) h
  | some vs => k (V.ofT vs) h
  | none => .bad 43
def dSlow (c : CF) (l : List ResultVar) (slots : List Nat) : FD := ⟨fun e _ fr h k => c.run e fr h (fun fr h => resT l slots e fr h k) (fun _ _ _ => .bad 44) (fun fr h => resT l slots e fr h k)⟩
def dExt (x : ExtK) (fn : Func) : FD := ⟨fun e args _ h k => match evalExt e.P x fn args h with
  | some (v, h) => k (V.of v) h
  | none => .bad 45⟩
def dBad (why : Nat) : FD := ⟨fun _ _ _ _ _ => .bad why⟩

/- the compiler -/
/-- A number for each function: its last bit says that the function may be compiled, the others which slots may be a region's own. -/
inductive LocT where
  | leaf (n : Nat)
  | node (m : Nat) (l r : LocT)
def LocT.at (t : LocT) : FuncId → Nat := LocT.rec (motive := fun _ => FuncId → Nat) (fun n _ => n) (fun m _ _ a b f => Bool.rec (b f) (a f) (Nat.blt f m)) t
abbrev Gd := Tmp × Bool
/-- Where a slot's value stands: in a slot of the frame, a constant, a value of the region's own (counted from its first). -/
inductive CX where
  | f (t : Tmp)
  | c (v : AVal)
  | l (n : Nat)
/-- What is known of a slot: when it is what stands there; when not, it may be known to be nothing. -/
structure SEnt where
  (cond un : Option Gd) (x : CX)
/-- The compiler's knowledge: slots, slots of the frame that were written, slots that guards look at. -/
structure CS where
  (env : T SEnt) (dead gm : Nat)
def CS.init : CS := ⟨.e, 0, 0⟩
def hasB (m t : Nat) : Bool := Nat.beq (Nat.land (Nat.shiftRight m t) 1) (nat_lit 1)
def addB (m t : Nat) : Nat := Nat.lor m (Nat.shiftLeft (nat_lit 1) t)
def gdEq (a b : Gd) : Bool := Bool.rec false (Bool.rec (Bool.rec true false b.2) b.2 a.2) (Nat.beq a.1 b.1)
def gdIn (g : Gd) (l : List Gd) : Bool := List.rec false (fun a _ ih => Bool.rec ih true (gdEq g a)) l
def okG (e : SEnt) (gs : List Gd) : Bool := Option.rec true (fun g => gdIn g gs) e.cond
section
variable {β : Type}
def toX (n : Nat) (cs : CS) (x : CX) (bad : β) (k : XF n → β) : β := CX.rec (motive := fun _ => β) (fun t => Bool.rec (Bool.rec bad (k (xSlot n t)) (Nat.blt t (nat_lit 4096))) bad (hasB cs.dead t)) (fun v => k (xConst n (V.of v))) (fun m => k (xLoc (Nat.sub n (Nat.succ m)) n)) x
def res (loc n : Nat) (cs : CS) (gs : List Gd) (x : Operand) (bad : β) (k : XF n → β) : β := Operand.rec (motive := fun _ => β)
  (fun t => Bool.rec (Bool.rec bad (k (xSlot n t)) (Nat.blt t (nat_lit 4096))) (Option.rec bad (fun e => Bool.rec bad (toX n cs e.x bad k) (okG e gs)) (cs.env.get t)) (hasB loc t))
  (fun v => Option.rec bad (fun v => k (xConst n (V.of v))) (ofConst 100000 v))
  (fun g => k (xConst n (V.of (.gptr g 0))))
  (fun f => k (xConst n (V.of (.func (.func f) [] [])))) x
def resL (loc n : Nat) (cs : CS) (gs : List Gd) (l : List Operand) (bad : β) : (List (XF n) → β) → β := List.rec (motive := fun _ => (List (XF n) → β) → β) (fun k => k []) (fun x _ ih k => res loc n cs gs x bad (fun y => ih (fun m => k (y :: m)))) l
end
/-- The operands' slots, and where they stand. -/
def binds (loc n : Nat) (cs : CS) (gs : List Gd) (l : List Operand) : Option (List (Nat × XF n)) := List.rec (motive := fun _ => Option (List (Nat × XF n))) (some [])
  (fun x _ ih => Option.rec none (fun m => Operand.rec (motive := fun _ => Option (List (Nat × XF n))) (fun t => res loc n cs gs (.tmp t) none (fun y => some ((t, y) :: m))) (fun _ => some m) (fun _ => some m) (fun _ => some m) x) ih) l
def slowS (loc n : Nat) (cs : CS) (gs : List Gd) (o : Oper) : S n := ⟨o, binds loc n cs gs o.op.operands.toList⟩
def loadC (n loc : Nat) (P : Program) (cs : CS) (gs : List Gd) (o : Oper) (t : TypeId) (a : Operand) : JF n := match aggT P t with
  | some false => res loc n cs gs a (jBad 71) (fun x => jLoad x (slowS loc n cs gs o))
  | _ => jSlow (slowS loc n cs gs o)
def storeC (n loc : Nat) (P : Program) (cs : CS) (gs : List Gd) (o : Oper) (t : TypeId) (a x : Operand) : JF n := match sizeT P t with
  | some 1 => res loc n cs gs a (jBad 72) (fun y => res loc n cs gs x (jBad 72) (fun z => jStore y z (slowS loc n cs gs o)))
  | _ => jSlow (slowS loc n cs gs o)
def faddrC (n loc : Nat) (P : Program) (cs : CS) (gs : List Gd) (o : Oper) (s : TypeId) (x : Operand) (f : Nat) : JF n := match und P s with
  | some (.struct fields) => match fields[f]? with
    | some fd => match sizeT P fd.type with
      | some (_ + 1) => res loc n cs gs x (jBad 73) (fun y => jFaddr fd.offset y)
      | _ => jBad 74
    | none => jBad 75
  | _ => jBad 76
def binC (n loc : Nat) (P : Program) (cs : CS) (gs : List Gd) (o : Oper) (op : BinOp) (t : TypeId) (x y : Operand) : JF n := match und P t with
  | some (.int _) => res loc n cs gs x (jBad 77) fun a => res loc n cs gs y (jBad 77) fun b => match op with
    | .eql => jCmp Nat.beq a b (slowS loc n cs gs o)
    | .neq => jCmp (fun x y => Bool.rec true false (Nat.beq x y)) a b (slowS loc n cs gs o)
    | .lss => jCmp Nat.blt a b (slowS loc n cs gs o)
    | .leq => jCmp Nat.ble a b (slowS loc n cs gs o)
    | .gtr => jCmp (fun x y => Nat.blt y x) a b (slowS loc n cs gs o)
    | .geq => jCmp (fun x y => Nat.ble y x) a b (slowS loc n cs gs o)
    | .add => jAdd a b (slowS loc n cs gs o)
    | .sub => jSub a b (slowS loc n cs gs o)
    | _ => jSlow (slowS loc n cs gs o)
  | some .string => res loc n cs gs x (jBad 78) fun a => res loc n cs gs y (jBad 78) fun b => match op with
    | .eql => jSeq false a b (slowS loc n cs gs o)
    | .neq => jSeq true a b (slowS loc n cs gs o)
    | .add => jCat a b (slowS loc n cs gs o)
    | _ => jSlow (slowS loc n cs gs o)
  | _ => jSlow (slowS loc n cs gs o)
def pickC (n loc : Nat) (cs : CS) (gs : List Gd) (c a b : Operand) : JF n := match c with
  | .tmp t => res loc n cs gs c (jBad 79) fun x => res loc n cs ((t, true) :: gs) a (jBad 80) fun y => res loc n cs ((t, false) :: gs) b (jBad 81) fun z => jPick x y z
  | _ => jBad 82
def idxC (n loc : Nat) (P : Program) (cs : CS) (gs : List Gd) (o : Oper) (t : TypeId) (x i : Operand) : JF n := match und P t with
  | some .string => res loc n cs gs x (jBad 83) fun a => res loc n cs gs i (jBad 83) fun b => jIdxS a b
  | _ => jSlow (slowS loc n cs gs o)
def idxaC (n loc : Nat) (P : Program) (cs : CS) (gs : List Gd) (o : Oper) (t : TypeId) (x i : Operand) : JF n := match und P t with
  | some (.slice e) => match sizeT P e with
    | some size => res loc n cs gs x (jBad 84) fun a => res loc n cs gs i (jBad 84) fun b => jIdxA size a b
    | none => jBad 85
  | _ => jSlow (slowS loc n cs gs o)
def callC (n loc : Nat) (P : Program) (cs : CS) (gs : List Gd) (o : Oper) (c : Call) : JF n := match c.callee with
  | .value f => match f with
    | .func f => resL loc n cs gs c.args.toList (jBad 86) (fun l => jCall f l)
    | x => res loc n cs gs x (jBad 87) fun y => resL loc n cs gs c.args.toList (jBad 88) (fun l => jCallv y l)
  | .invoke _ _ => jSlow (slowS loc n cs gs o)
  | .builtin b => match b with
    | .len => match c.args.toList, c.argTypes.toList with
      | [x], t :: _ => match und P t with
        | some .string => res loc n cs gs x (jBad 89) fun y => jLenS y (slowS loc n cs gs o)
        | some (.slice _) => res loc n cs gs x (jBad 89) fun y => jLenL y (slowS loc n cs gs o)
        | _ => jSlow (slowS loc n cs gs o)
      | _, _ => jSlow (slowS loc n cs gs o)
    | _ => jSlow (slowS loc n cs gs o)
/-- An operation: what it moves, if it only moves; what it does. -/
structure CO (n : Nat) where
  (mv : Option Operand) (j : JF n)
abbrev CoT := (n loc : Nat) → Program → CS → List Gd → Oper → CO n
def compO (op : Op) : CoT := Op.rec (motive := fun _ => CoT)
  (fun x n loc P cs gs o => ⟨some x, res loc n cs gs x (jBad 60) jMov⟩)
  (fun x n loc P cs gs o => ⟨some x, res loc n cs gs x (jBad 61) jMov⟩)
  (fun c a b n loc P cs gs o => ⟨none, pickC n loc cs gs c a b⟩)
  (fun _ n loc P cs gs o => ⟨none, jSlow (slowS loc n cs gs o)⟩)
  (fun _ _ n loc P cs gs o => ⟨none, jSlow (slowS loc n cs gs o)⟩)
  (fun _ _ n loc P cs gs o => ⟨none, jSlow (slowS loc n cs gs o)⟩)
  (fun _ _ _ n loc P cs gs o => ⟨none, jSlow (slowS loc n cs gs o)⟩)
  (fun _ _ _ _ n loc P cs gs o => ⟨none, jSlow (slowS loc n cs gs o)⟩)
  (fun t a n loc P cs gs o => ⟨none, loadC n loc P cs gs o t a⟩)
  (fun t a x n loc P cs gs o => ⟨none, storeC n loc P cs gs o t a x⟩)
  (fun _ n loc P cs gs o => ⟨none, jSlow (slowS loc n cs gs o)⟩)
  (fun _ n loc P cs gs o => ⟨none, jSlow (slowS loc n cs gs o)⟩)
  (fun x n loc P cs gs o => ⟨none, res loc n cs gs x (jBad 62) jChk⟩)
  (fun op t x y z n loc P cs gs o => ⟨none, binC n loc P cs gs o op t x y⟩)
  (fun op t x n loc P cs gs o => ⟨none, UnOp.rec (jSlow (slowS loc n cs gs o)) (jSlow (slowS loc n cs gs o)) (res loc n cs gs x (jBad 63) jNot) (jSlow (slowS loc n cs gs o)) op⟩)
  (fun _ _ _ n loc P cs gs o => ⟨none, jSlow (slowS loc n cs gs o)⟩)
  (fun _ _ n loc P cs gs o => ⟨none, jSlow (slowS loc n cs gs o)⟩)
  (fun _ _ n loc P cs gs o => ⟨none, jSlow (slowS loc n cs gs o)⟩)
  (fun _ _ _ n loc P cs gs o => ⟨none, jSlow (slowS loc n cs gs o)⟩)
  (fun _ _ n loc P cs gs o => ⟨none, jSlow (slowS loc n cs gs o)⟩)
  (fun _ _ n loc P cs gs o => ⟨none, jSlow (slowS loc n cs gs o)⟩)
  (fun _ _ _ n loc P cs gs o => ⟨none, jSlow (slowS loc n cs gs o)⟩)
  (fun _ _ _ _ _ n loc P cs gs o => ⟨none, jSlow (slowS loc n cs gs o)⟩)
  (fun s x f n loc P cs gs o => ⟨none, faddrC n loc P cs gs o s x f⟩)
  (fun _ _ _ n loc P cs gs o => ⟨none, jSlow (slowS loc n cs gs o)⟩)
  (fun t x i n loc P cs gs o => ⟨none, idxaC n loc P cs gs o t x i⟩)
  (fun t x i n loc P cs gs o => ⟨none, idxC n loc P cs gs o t x i⟩)
  (fun _ _ _ _ n loc P cs gs o => ⟨none, jSlow (slowS loc n cs gs o)⟩)
  (fun _ _ _ _ n loc P cs gs o => ⟨none, jSlow (slowS loc n cs gs o)⟩)
  (fun _ _ _ n loc P cs gs o => ⟨none, jSlow (slowS loc n cs gs o)⟩)
  (fun _ _ _ _ n loc P cs gs o => ⟨none, jSlow (slowS loc n cs gs o)⟩)
  (fun _ _ n loc P cs gs o => ⟨none, jSlow (slowS loc n cs gs o)⟩)
  (fun _ _ n loc P cs gs o => ⟨none, jSlow (slowS loc n cs gs o)⟩)
  (fun _ n loc P cs gs o => ⟨none, jSlow (slowS loc n cs gs o)⟩)
  (fun _ _ _ _ n loc P cs gs o => ⟨none, jSlow (slowS loc n cs gs o)⟩)
  (fun x i n loc P cs gs o => ⟨none, res loc n cs gs x (jBad 64) (fun y => jExtract y i)⟩)
  (fun c n loc P cs gs o => ⟨none, callC n loc P cs gs o c⟩)
  (fun _ n loc P cs gs o => ⟨none, jSlow (slowS loc n cs gs o)⟩)
  (fun _ n loc P cs gs o => ⟨none, jSlow (slowS loc n cs gs o)⟩)
  (fun _ n loc P cs gs o => ⟨none, jSlow (slowS loc n cs gs o)⟩)
  (fun _ _ n loc P cs gs o => ⟨none, jSlow (slowS loc n cs gs o)⟩)
  (fun _ _ _ n loc P cs gs o => ⟨none, jSlow (slowS loc n cs gs o)⟩)
  (fun _ _ n loc P cs gs o => ⟨none, jSlow (slowS loc n cs gs o)⟩) op
def gsOf (g : Option Gd) : List Gd := Option.rec [] (fun g => [g]) g
def mask (gm : Nat) (g : Option Gd) : Nat := Option.rec gm (fun g => addB gm g.1) g
/-- What is known of a slot into which an operand is moved. -/
def alias (loc : Nat) (cs : CS) (g : Option Gd) : Operand → Option SEnt
  | .tmp t => match hasB loc t with
    | true => match cs.env.get t with
      | some e => match g with
        | none => some e
        | some g => match e.cond with
          | none => match e.un with
            | some u => match gdEq u g with
              | true => some e
              | false => some ⟨some g, none, e.x⟩
            | none => some ⟨some g, none, e.x⟩
          | some c => match gdEq c g with
            | true => some ⟨some g, none, e.x⟩
            | false => none
      | none => none
    | false => match hasB cs.dead t with
      | true => none
      | false => some ⟨g, none, .f t⟩
  | .const v => match ofConst 100000 v with
    | some v => some ⟨g, none, .c v⟩
    | none => none
  | .global i => some ⟨g, none, .c (.gptr i 0)⟩
  | .func f => some ⟨g, none, .c (.func (.func f) [] [])⟩
def guardK {β : Type} (all : List Oper) (o : Oper) (bad : β) (k : Option Gd → β) : β := match o.guard with
  | none => k none
  | some (j, w) => match nthG all j with
    | some o' => match o'.dst with
      | some g => k (some (g, w))
      | none => bad
    | none => bad
abbrev FinT := (n : Nat) → CS → OF n
def stepE (loc n : Nat) (cs : CS) (g : Option Gd) (j : JF n) (ih : FinT) : OF n := match g with
  | none => oEff j (ih n cs)
  | some (t, w) => res loc n cs [] (.tmp t) (oBad 90) fun x => oGEff x w j (ih n cs)
def stepP (loc n : Nat) (cs : CS) (g : Option Gd) (j : JF n) (d : Nat) (ih : FinT) : OF n := match g with
  | none => oPush j (ih (Nat.succ n) ⟨cs.env.set d ⟨none, none, .l n⟩, cs.dead, cs.gm⟩)
  | some (t, w) => res loc n cs [] (.tmp t) (oBad 91) fun x => oGPush x w j (ih (Nat.succ n) ⟨cs.env.set d ⟨none, some (t, w), .l n⟩, cs.dead, addB cs.gm t⟩)
def stepS (loc n : Nat) (cs : CS) (g : Option Gd) (j : JF n) (d : Nat) (ih : FinT) : OF n := match g with
  | none => oSet j (spSlot d) (ih n ⟨cs.env, addB cs.dead d, cs.gm⟩)
  | some (t, w) => res loc n cs [] (.tmp t) (oBad 92) fun x => oGSet x w j (spSlot d) (ih n ⟨cs.env, addB cs.dead d, cs.gm⟩)
/-- Does an operation write the slot that its guard looks at? -/
def clash (g : Option Gd) (d : Nat) : Bool := Option.rec false (fun g => Nat.beq g.1 d) g
def stepD (loc n : Nat) (cs : CS) (g : Option Gd) (c : CO n) (d : Nat) (ih : FinT) : OF n := match or (hasB cs.gm d) (clash g d) with
  | true => oBad 93
  | false => match hasB loc d with
    | true => match c.mv with
      | some x => match alias loc cs g x with
        | some e => ih n ⟨cs.env.set d e, cs.dead, mask (mask cs.gm e.cond) e.un⟩
        | none => stepP loc n cs g c.j d ih
      | none => stepP loc n cs g c.j d ih
    | false => match Nat.blt d (nat_lit 4096) with
      | true => stepS loc n cs g c.j d ih
      | false => oBad 94
/-- A region: what each operation is, then what it ends with. -/
def compL (loc : Nat) (P : Program) (all : List Oper) (fin : FinT) (l : List Oper) : FinT := List.rec (motive := fun _ => FinT) fin
  (fun o _ ih n cs => guardK all o (oBad 95) fun g => match o.dst with
    | none => stepE loc n cs g (compO o.op n loc P cs (gsOf g) o).j ih
    | some d => stepD loc n cs g (compO o.op n loc P cs (gsOf g) o) d ih) l
def finNil : FinT := fun _ _ => oNil
def finX (loc : Nat) (x : Operand) : FinT := fun n cs => res loc n cs [] x (oBad 96) oFin
def quietO (P : Program) (o : Oper) : Bool := match kindOf P o with
  | .pure | .read => true
  | _ => false
/-- The slots that a region's operations look at, each once; those that it writes. -/
def slotsL : List Nat → Nat → List Nat
  | [], _ => []
  | t :: l, m => match hasB m t with
    | true => slotsL l m
    | false => t :: slotsL l (addB m t)
def slotsR (ops : List Oper) : List Nat := slotsL (ops.flatMap (looksA ops)) 0
def dstsR (ops : List Oper) : List Nat := ops.filterMap (·.dst)
def clear (loc : Nat) (l : List Nat) : Bool := l.all fun t => !hasB loc t && Nat.blt t (nat_lit 4096)
def drawC (loc : Nat) (P : Program) (ops : List Oper) : CF := match clear loc (slotsR ops) && clear loc (dstsR ops) with
  | true => cDraw (slotsR ops) (dstsR ops) ops (tailOf P ops) (befores ops) (windows P ops)
  | false => cBad 97
def compR (loc : Nat) (P : Program) (ops : List Oper) (draw : Bool) : CF := match draw with
  | false => cOps (compL loc P ops finNil ops 0 .init)
  | true => match ops.all (quietO P) with
    | true => cOpsQ ops.length (compL loc P ops finNil ops 0 .init)
    | false => drawC loc P ops
def condC (loc : Nat) (x : Operand) (a b : CF) : CF := res loc 0 .init [] x (cBad 98) fun y => cTest (oFin y) a b
def compT (loc : Nat) (P : Program) (ops : List Oper) (draw : Bool) (x : Operand) (a b : CF) : CF := match draw with
  | false => cTest (compL loc P ops (finX loc x) ops 0 .init) a b
  | true => match ops.all (quietO P) with
    | true => cTestQ ops.length (compL loc P ops (finX loc x) ops 0 .init) a b
    | false => cSeq (drawC loc P ops) (condC loc x a b)
def compC (loc : Nat) (P : Program) : Code → CF
  | .skip | .label _ => cSkip
  | .region _ ops d => compR loc P ops.toList d
  | .seq a b => match a, b with
    | .region _ ops d, .cond x p q => compT loc P ops.toList d x (compC loc P p) (compC loc P q)
    | .region _ ops d, .seq (.cond x p q) c => cSeq (compT loc P ops.toList d x (compC loc P p) (compC loc P q)) (compC loc P c)
    | a, b => cSeq (compC loc P a) (compC loc P b)
  | .cond x a b => condC loc x (compC loc P a) (compC loc P b)
  | .block id b => cBlock id (compC loc P b)
  | .loop b => cLoop (compC loc P b)
  | .scope b => compC loc P b
  | .exit id => cExit id
  | .ret => cRet
  | _ => cBad 99
/-- Are all regions of a function's code, whose order the run draws, such that no order matters? -/
def ordC (P : Program) : Code → Bool
  | .region _ ops d => match d with
    | true => orderly P ops.toList
    | false => true
  | .seq a b => and (ordC P a) (ordC P b)
  | .cond _ a b => and (ordC P a) (ordC P b)
  | .block _ b => ordC P b
  | .loop b => ordC P b
  | .scope b => ordC P b
  | _ => true
/-- Of all functions that may be compiled. -/
def ordP (P : Program) (locs : FuncId → Nat) : Bool := (P.funcs.toList.zipIdx).all fun x => match x.1.body with
  | some c => match hasB (locs x.2) 0 with
    | true => ordC P c
    | false => true
  | none => true
def tmpsR (l : List ResultVar) : Option (List Nat) := List.rec (some []) (fun r _ ih => ResultVar.rec (fun t => Option.rec none (fun l => some (t :: l)) ih) (fun _ _ => none) r) l
def slotsV (l : List ResultVar) : List Nat := l.map fun | .tmp t => t | .cell t _ => t
def compF (loc : Nat) (P : Program) (fn : Func) (c : Code) : FD := match clear loc (slotsV fn.results.toList) with
  | true => match tmpsR fn.results.toList with
    | some l => match l with
      | [t] => dOne (compC loc P c) (xSlot 0 t)
      | l => dMany (compC loc P c) (l.map (xSlot 0))
    | none => dSlow (compC loc P c) fn.results.toList (slotsV fn.results.toList)
  | false => dBad 100
def funD (P : Program) (locs : FuncId → Nat) (f : FuncId) : FD := match nthC P.funcs.toList f with
  | some fn => match fn.body with
    | some c => match hasB (locs f) 0 with
      | true => compF (Nat.div (locs f) (nat_lit 2)) P fn c
      | false => dBad 101
    | none => match extOf fn with
      | some x => dExt x fn
      | none => dBad 102
  | none => dBad 103
/-- A call, so deep. -/
def runCall (P : Program) (G : Nat → Option AVal) (H : Hook) (locs : FuncId → Nat) (n : Nat) : CallF := Nat.rec (motive := fun _ => CallF) (fun _ _ _ _ _ => .bad 49)
  (fun _ call f args fr h k => Option.rec (motive := fun _ => CallF → FuncId → List AVal → FR → Hp → KV → Out)
    (fun call f args fr h k => (funD P locs f).run ⟨P, G, H, call⟩ args fr h k)
    (fun r _ _ _ _ _ k => Option.rec (motive := fun _ => KV → Out) (fun _ => .bad 48) (fun p k => k (V.of p.1) p.2) r k) (H.call f args h) call f args fr h k) n
def fast (P : Program) (G : Nat → Option AVal) (H : Hook) (locs : FuncId → Nat) (f : FuncId) (args : List AVal) (h : Hp) : Out := runCall P G H locs 10000 f args (frOf args (nat_lit 0) .e) h (fun v h => .ok v.v h)

end
end Go.Ae
