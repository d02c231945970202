/- How the abstract memory stands to the model's world. -/
import Derived.Test.YteginejafomfmaaGreatDoorAeBase
import Derived.Calls
import Derived.Orders
import Derived.Laws.Append
import Derived.Laws.CopyRow
import Derived.Laws.Tables
import Derived.Laws.Rows
import Derived.Laws.NewBlocks
import Derived.Lib.FrozenHead
set_option linter.unusedVariables false
set_option linter.unusedSimpArgs false
namespace Go.Ae
open Go

/-- Where an abstract block lies: the model's block, by how much its places are shifted, how many cells the model's block has. -/
structure Loc where
  blk : Nat
  sh : Nat
  sz : Nat
abbrev Beta := Nat → Option Loc

mutual
inductive VR (ρ : Nat → Value) (β : Beta) : AVal → Value → Prop where
  | bool (b : Bool) : VR ρ β (.bool b) (.bool b)
  | int (k : IntKind) (n : Int) : VR ρ β (.int k n) (.int k n)
  | str {len code : Nat} {s : ByteArray} (h : s.data.toList = decode len code) (hc : code < 256 ^ len) : VR ρ β (.str len code) (.string s)
  | ptr {b off : Nat} {L : Loc} (h : β b = some L) : VR ρ β (.ptr b off) (.pointer (some ⟨L.blk, L.sh + off, none⟩))
  | gptr (g off : Nat) : VR ρ β (.gptr g off) (.pointer (some ⟨g, off, none⟩))
  | nilptr : VR ρ β .nilptr (.pointer none)
  | slice {b off len cap size c : Nat} {exact : Bool} {L : Loc} (h : β b = some L) (hs : 0 < size) (hl : len ≤ cap) (hc : cap ≤ c) (he : exact = true → c = cap)
      (hz : L.sh + off + c * size ≤ L.sz) : VR ρ β (.slice b off len cap exact size) (.slice (some ⟨L.blk, L.sh + off, none⟩) len c)
  | nilslice : VR ρ β .nilslice (.slice none 0 0)
  | map {b : Nat} {L : Loc} (h : β b = some L) : VR ρ β (.map b) (.map (some L.blk))
  | nilmap : VR ρ β .nilmap (.map none)
  | func {fn : Fn} {first captured : List AVal} {vs ws : Array Value} (h1 : VRs ρ β first vs.toList) (h2 : VRs ρ β captured ws.toList) : VR ρ β (.func fn first captured) (.func fn vs ws)
  | nilfunc : VR ρ β .nilfunc .nilFunc
  | iface {t : TypeId} {v : AVal} {cv : Value} (h : VR ρ β v cv) : VR ρ β (.iface t v) (.iface t cv)
  | niliface : VR ρ β .niliface .nilIface
  | agg {cs : List AVal} {vs : Array Value} (h : VRs ρ β cs vs.toList) (h1 : ∀ v ∈ vs.toList, v.oneCell' = true) : VR ρ β (.agg cs) (.agg vs)
  | tuple {cs : List AVal} {vs : Array Value} (h : VRs ρ β cs vs.toList) : VR ρ β (.tuple cs) (.tuple vs)
  | opq (i : Nat) (h : (ρ i).oneCell' = true) (hb : ∀ b, ρ i ≠ .bool b) : VR ρ β (.opq i) (ρ i)
inductive VRs (ρ : Nat → Value) (β : Beta) : List AVal → List Value → Prop where
  | nil : VRs ρ β [] []
  | cons {x : AVal} {xs : List AVal} {v : Value} {vs : List Value} (h : VR ρ β x v) (hs : VRs ρ β xs vs) : VRs ρ β (x :: xs) (v :: vs)
end

def Ext (β β' : Beta) : Prop := ∀ b L, β b = some L → β' b = some L
theorem Ext.refl (β : Beta) : Ext β β := fun _ _ h => h
theorem Ext.trans {β β' β'' : Beta} (h : Ext β β') (h' : Ext β' β'') : Ext β β'' := fun b L e => h' b L (h b L e)

mutual
theorem VR.mono {ρ : Nat → Value} {β β' : Beta} (hx : Ext β β') : ∀ {x : AVal} {v : Value}, VR ρ β x v → VR ρ β' x v
  | _, _, .bool b => .bool b
  | _, _, .int k n => .int k n
  | _, _, .str h hc => .str h hc
  | _, _, .ptr h => .ptr (hx _ _ h)
  | _, _, .gptr g o => .gptr g o
  | _, _, .nilptr => .nilptr
  | _, _, .slice h hs hl hc he hz => .slice (hx _ _ h) hs hl hc he hz
  | _, _, .nilslice => .nilslice
  | _, _, .map h => .map (hx _ _ h)
  | _, _, .nilmap => .nilmap
  | _, _, .func h1 h2 => .func (VRs.mono hx h1) (VRs.mono hx h2)
  | _, _, .nilfunc => .nilfunc
  | _, _, .iface h => .iface (VR.mono hx h)
  | _, _, .niliface => .niliface
  | _, _, .agg h h1 => .agg (VRs.mono hx h) h1
  | _, _, .tuple h => .tuple (VRs.mono hx h)
  | _, _, .opq i h hb => .opq i h hb
theorem VRs.mono {ρ : Nat → Value} {β β' : Beta} (hx : Ext β β') : ∀ {x : List AVal} {v : List Value}, VRs ρ β x v → VRs ρ β' x v
  | _, _, .nil => .nil
  | _, _, .cons h hs => .cons (VR.mono hx h) (VRs.mono hx hs)
end

section lists
variable {ρ : Nat → Value} {β : Beta}
theorem VRs.length {xs : List AVal} {vs : List Value} (h : VRs ρ β xs vs) : xs.length = vs.length := by
  induction xs generalizing vs with
  | nil => cases h; rfl
  | cons x xs ih => cases h with | cons h hs => simp [ih hs]
theorem VRs.get {xs : List AVal} {vs : List Value} (h : VRs ρ β xs vs) {i : Nat} {x : AVal} (hi : xs[i]? = some x) : ∃ v, vs[i]? = some v ∧ VR ρ β x v := by
  induction xs generalizing vs i with
  | nil => simp at hi
  | cons y ys ih =>
    cases h with
    | cons h hs =>
      cases i with
      | zero => simp only [List.getElem?_cons_zero, Option.some.injEq] at hi; subst hi; exact ⟨_, rfl, h⟩
      | succ i => exact ih hs (by simpa using hi)
theorem VRs.append {xs ys : List AVal} {vs ws : List Value} (h : VRs ρ β xs vs) (h' : VRs ρ β ys ws) : VRs ρ β (xs ++ ys) (vs ++ ws) := by
  induction xs generalizing vs with
  | nil => cases h; exact h'
  | cons x xs ih => cases h with | cons h hs => exact .cons h (ih hs)
theorem VRs.take {xs : List AVal} {vs : List Value} (h : VRs ρ β xs vs) (n : Nat) : VRs ρ β (xs.take n) (vs.take n) := by
  induction xs generalizing vs n with
  | nil => cases h; simpa using VRs.nil
  | cons x xs ih => cases h with | cons h hs => cases n with
    | zero => exact .nil
    | succ n => exact .cons h (ih hs n)
theorem VRs.drop {xs : List AVal} {vs : List Value} (h : VRs ρ β xs vs) (n : Nat) : VRs ρ β (xs.drop n) (vs.drop n) := by
  induction xs generalizing vs n with
  | nil => cases h; simpa using VRs.nil
  | cons x xs ih => cases h with | cons h hs => cases n with
    | zero => exact .cons h hs
    | succ n => exact ih hs n
theorem VRs.of_get {xs : List AVal} {vs : List Value} (hl : xs.length = vs.length) (h : ∀ (i : Nat) (x : AVal), xs[i]? = some x → ∃ v, vs[i]? = some v ∧ VR ρ β x v) : VRs ρ β xs vs := by
  induction xs generalizing vs with
  | nil => cases vs with | nil => exact .nil | cons v vs => simp at hl
  | cons x xs ih =>
    cases vs with
    | nil => simp at hl
    | cons v vs =>
      obtain ⟨v', hv, hr⟩ := h 0 x rfl
      simp only [List.getElem?_cons_zero, Option.some.injEq] at hv
      subst hv
      exact .cons hr (ih (by simpa using hl) fun i y hy => by simpa using h (i + 1) y (by simpa using hy))
end lists

def EntsR (ρ : Nat → Value) (β : Beta) : List Ent → List MapEntry → Prop
  | [], [] => True
  | e :: es, m :: ms => VR ρ β e.key m.key ∧ VR ρ β e.val m.val ∧ e.born = m.born ∧ EntsR ρ β es ms
  | _, _ => False
theorem EntsR.mono {ρ : Nat → Value} {β β' : Beta} (hx : Ext β β') : ∀ {es : List Ent} {ms : List MapEntry}, EntsR ρ β es ms → EntsR ρ β' es ms
  | [], [], _ => trivial
  | _ :: _, _ :: _, ⟨h1, h2, h3, h4⟩ => ⟨h1.mono hx, h2.mono hx, h3, EntsR.mono hx h4⟩
  | [], _ :: _, h => h.elim
  | _ :: _, [], h => h.elim

/-- A trie's known cells, and where they lie in a row. -/
def CellsR (ρ : Nat → Value) (β : Beta) (sh ext : Nat) (t : T AVal) (c : Array Value) : Prop :=
  ∀ i v, t.get i = some v → i < ext ∧ ∃ cv, c[sh + i]? = some cv ∧ VR ρ β v cv ∧ cv.oneCell' = true

def BlkR (ρ : Nat → Value) (β : Beta) (L : Loc) : Blk → Obj → Prop
  | .cells e ext fz t, .cells c e' fr => L.sh = 0 ∧ e' = e ∧ c.size = L.sz ∧ CellsR ρ β L.sh ext t c ∧ (fr.1 = fr.2 ∨ fr.2 ≤ L.sh + fz)
  | .map es clock, .map ms clock' => clock' = clock ∧ L.sh = 0 ∧ EntsR ρ β es ms.toList
  | .siter len code pos, .stringIter s pos' => pos' = pos ∧ L.sh = 0 ∧ s.data.toList = decode len code ∧ code < 256 ^ len
  | _, _ => False
theorem CellsR.mono {ρ : Nat → Value} {β β' : Beta} (hx : Ext β β') {sh ext : Nat} {t : T AVal} {c : Array Value} (h : CellsR ρ β sh ext t c) : CellsR ρ β' sh ext t c :=
  fun i v hi => let ⟨h1, cv, h2, h3, h4⟩ := h i v hi; ⟨h1, cv, h2, h3.mono hx, h4⟩
theorem BlkR.mono {ρ : Nat → Value} {β β' : Beta} (hx : Ext β β') {L : Loc} : ∀ {b : Blk} {o : Obj}, BlkR ρ β L b o → BlkR ρ β' L b o
  | .cells .., .cells .., ⟨h0, h1, h2, h3, h4⟩ => ⟨h0, h1, h2, h3.mono hx, h4⟩
  | .map .., .map .., ⟨h1, h2, h3⟩ => ⟨h1, h2, h3.mono hx⟩
  | .siter .., .stringIter .., h => h
  | .miter .., _, h => h.elim
  | .cells .., .pending .., h | .cells .., .view .., h | .cells .., .number .., h | .cells .., .map .., h | .cells .., .chan .., h | .cells .., .stringIter .., h
  | .cells .., .mapIter .., h | .cells .., .loop .., h | .cells .., .deferred .., h | .cells .., .coro .., h | .cells .., .finalizers .., h => h.elim
  | .map .., .pending .., h | .map .., .view .., h | .map .., .number .., h | .map .., .cells .., h | .map .., .chan .., h | .map .., .stringIter .., h
  | .map .., .mapIter .., h | .map .., .loop .., h | .map .., .deferred .., h | .map .., .coro .., h | .map .., .finalizers .., h => h.elim
  | .siter .., .pending .., h | .siter .., .view .., h | .siter .., .number .., h | .siter .., .map .., h | .siter .., .chan .., h | .siter .., .cells .., h
  | .siter .., .mapIter .., h | .siter .., .loop .., h | .siter .., .deferred .., h | .siter .., .coro .., h | .siter .., .finalizers .., h => h.elim

/-- The environment of a run: opaque values, the variables of the package, the first block of the run's own. -/
structure Env where
  ρ : Nat → Value
  G : Nat → Option AVal
  base : Nat

structure Rel (E : Env) (β : Beta) (h : Hp) (w : World) : Prop where
  blk : ∀ b x, h.get b = some x → b < h.next ∧ ∃ L o, β b = some L ∧ E.base ≤ L.blk ∧ w.heap[L.blk]? = some o ∧ BlkR E.ρ β L x o
  inj : ∀ b b' x x' L L', h.get b = some x → h.get b' = some x' → β b = some L → β b' = some L' → L.blk = L'.blk → b = b'
  fresh : ∀ b, h.next ≤ b → β b = none
  glob : ∀ g v, E.G g = some v → g < E.base ∧ ∃ cv, w.cell? ⟨g, 0, none⟩ = some cv ∧ ∀ β', VR E.ρ β' v cv
  size : E.base ≤ w.heap.size

/-- What a piece of a run leaves alone. -/
structure Frm (β : Beta) (h : Hp) (w : World) (β' : Beta) (h' : Hp) (w' : World) : Prop where
  next : h.next ≤ h'.next
  ext : ∀ b, b < h.next → β' b = β b
  size : w.heap.size ≤ w'.heap.size
  same : ∀ k, k < w.heap.size → (∀ b x L, h.get b = some x → β b = some L → L.blk ≠ k) → w'.heap[k]? = w.heap[k]?
  range : ∀ b x L, h'.get b = some x → β' b = some L → L.blk < w.heap.size → ∃ b0 x0 L0, h.get b0 = some x0 ∧ β b0 = some L0 ∧ L0.blk = L.blk
  dom : ∀ b, b < h.next → h.get b = none → h'.get b = none
  os : w'.os = w.os
  tape : w'.tape = w.tape
  output : w'.output = w.output

theorem Frm.refl (β : Beta) (h : Hp) (w : World) : Frm β h w β h w :=
  ⟨Nat.le_refl _, fun _ _ => rfl, Nat.le_refl _, fun _ _ _ => rfl, fun b x L h1 h2 _ => ⟨b, x, L, h1, h2, rfl⟩, fun _ _ h => h, rfl, rfl, rfl⟩
theorem Frm.trans {β β' β'' : Beta} {h h' h'' : Hp} {w w' w'' : World} (f : Frm β h w β' h' w') (g : Frm β' h' w' β'' h'' w'') : Frm β h w β'' h'' w'' where
  next := Nat.le_trans f.next g.next
  ext := fun b hb => (g.ext b (Nat.lt_of_lt_of_le hb f.next)).trans (f.ext b hb)
  size := Nat.le_trans f.size g.size
  same := fun k hk hn => by
    rw [g.same k (Nat.lt_of_lt_of_le hk f.size) ?_, f.same k hk hn]
    intro b x L hb hL e
    subst e
    obtain ⟨b0, x0, L0, h1, h2, h3⟩ := f.range b x L hb hL hk
    exact hn b0 x0 L0 h1 h2 h3
  range := fun b x L hb hL hlt => by
    obtain ⟨b0, x0, L0, h1, h2, h3⟩ := g.range b x L hb hL (Nat.lt_of_lt_of_le hlt f.size)
    obtain ⟨b1, x1, L1, h4, h5, h6⟩ := f.range b0 x0 L0 h1 h2 (by omega)
    exact ⟨b1, x1, L1, h4, h5, h6.trans h3⟩
  dom := fun b hb hn => g.dom b (Nat.lt_of_lt_of_le hb f.next) (f.dom b hb hn)
  os := g.os.trans f.os
  tape := g.tape.trans f.tape
  output := g.output.trans f.output

theorem Frm.Ext {E : Env} {β β' : Beta} {h h' : Hp} {w w' : World} (f : Frm β h w β' h' w') (r : Rel E β h w) : Ae.Ext β β' := fun b L hb => by
  by_cases hlt : b < h.next
  · rw [f.ext b hlt]; exact hb
  · rw [r.fresh b (by omega)] at hb; cases hb

/-- The frame's slots. -/
structure FrR (E : Env) (β : Beta) (n : Nat) (fr : T AVal) (a : Act) : Prop where
  size : n ≤ a.tmps.size
  val : ∀ t, VR E.ρ β ((fr.get t).getD .undef) (a.tmps.getD t undef)
  defers : a.defers = []
theorem FrR.mono {E : Env} {β β' : Beta} {n : Nat} {fr : T AVal} {a : Act} (hx : Ae.Ext β β') (h : FrR E β n fr a) : FrR E β' n fr a := ⟨h.size, fun t => (h.val t).mono hx, h.defers⟩
theorem FrR.put {E : Env} {β : Beta} {n : Nat} {fr : T AVal} {a : Act} (h : FrR E β n fr a) {v : AVal} {cv : Value} (hv : VR E.ρ β v cv) (dst : Option Tmp) (hd : ∀ d, dst = some d → d < n) : FrR E β n (putA fr dst v) (a.put dst cv) := by
  cases dst with
  | none => exact h
  | some d =>
    have hlt : d < a.tmps.size := Nat.lt_of_lt_of_le (hd d rfl) h.size
    refine ⟨by simp [Act.put]; exact h.size, fun t => ?_, h.defers⟩
    simp only [putA, T.get_set, Act.put]
    by_cases e : d = t
    · subst e; rw [if_pos rfl]; simpa [Array.getD, hlt] using hv
    · rw [if_neg e]
      have := h.val t
      rw [Array.getD_eq_getD_getElem?] at this ⊢
      rw [Array.getElem?_setIfInBounds_ne e]
      exact this
end Go.Ae
