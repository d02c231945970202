/- How the abstract memory stands to the model's world. -/
import Derived.Test.YtmkeapfgondiiaaGreatDoorEvA
import Derived.Calls
import Derived.Orders
import Derived.Laws.Append
import Derived.Laws.CopyRow
import Derived.Laws.Tables
import Derived.Laws.Rows
import Derived.Laws.NewBlocks
import Derived.Lib.FrozenHead
import Derived.Laws.StructEq
import Derived.Laws.Entries
import Derived.Laws.Strings
import Derived.Lib.Strings
import Derived.Lib.UnsafeStr
set_option linter.unusedVariables false
set_option linter.unusedSimpArgs false
namespace Go.Ae
open Go

/-- Where an abstract block lies: the model's block, by how much its places are shifted, how many cells the model's block has. -/
structure Loc where
  blk : Nat
  sh : Nat
  sz : Nat
abbrev Beta := Nat → Option Loc

mutual
inductive VR (ρ : Nat → Value) (β : Beta) : AVal → Value → Prop where
  | bool (b : Bool) : VR ρ β (.bool b) (.bool b)
  | int (k : IntKind) (n : Int) : VR ρ β (.int k n) (.int k n)
  | str {len code : Nat} {s : ByteArray} (h : s.data.toList = decode len code) (hc : code < 256 ^ len) : VR ρ β (.str len code) (.string s)
  | ptr {b off : Nat} {L : Loc} (h : β b = some L) : VR ρ β (.ptr b off) (.pointer (some ⟨L.blk, L.sh + off, none⟩))
  | gptr (g off : Nat) : VR ρ β (.gptr g off) (.pointer (some ⟨g, off, none⟩))
  | nilptr : VR ρ β .nilptr (.pointer none)
  | slice {b off len cap size c : Nat} {exact : Bool} {L : Loc} (h : β b = some L) (hs : 0 < size) (hl : len ≤ cap) (hc : cap ≤ c) (he : exact = true → c = cap)
      (hz : L.sh + off + c * size ≤ L.sz) : VR ρ β (.slice b off len cap exact size) (.slice (some ⟨L.blk, L.sh + off, none⟩) len c)
  | nilslice : VR ρ β .nilslice (.slice none 0 0)
  | map {b : Nat} {L : Loc} (h : β b = some L) : VR ρ β (.map b) (.map (some L.blk))
  | nilmap : VR ρ β .nilmap (.map none)
  | func {fn : Fn} {first captured : List AVal} {vs ws : Array Value} (h1 : VRs ρ β first vs.toList) (h2 : VRs ρ β captured ws.toList) : VR ρ β (.func fn first captured) (.func fn vs ws)
  | nilfunc : VR ρ β .nilfunc .nilFunc
  | iface {t : TypeId} {v : AVal} {cv : Value} (h : VR ρ β v cv) : VR ρ β (.iface t v) (.iface t cv)
  | niliface : VR ρ β .niliface .nilIface
  | agg {cs : List AVal} {vs : Array Value} (h : VRs ρ β cs vs.toList) (h1 : ∀ v ∈ vs.toList, v.oneCell' = true) : VR ρ β (.agg cs) (.agg vs)
  | tuple {cs : List AVal} {vs : Array Value} (h : VRs ρ β cs vs.toList) : VR ρ β (.tuple cs) (.tuple vs)
  | opq (i : Nat) (h : (ρ i).oneCell' = true) (hb : ∀ b, ρ i ≠ .bool b) : VR ρ β (.opq i) (ρ i)
inductive VRs (ρ : Nat → Value) (β : Beta) : List AVal → List Value → Prop where
  | nil : VRs ρ β [] []
  | cons {x : AVal} {xs : List AVal} {v : Value} {vs : List Value} (h : VR ρ β x v) (hs : VRs ρ β xs vs) : VRs ρ β (x :: xs) (v :: vs)
end

def Ext (β β' : Beta) : Prop := ∀ b L, β b = some L → β' b = some L
theorem Ext.refl (β : Beta) : Ext β β := fun _ _ h => h
theorem Ext.trans {β β' β'' : Beta} (h : Ext β β') (h' : Ext β' β'') : Ext β β'' := fun b L e => h' b L (h b L e)

mutual
theorem VR.mono {ρ : Nat → Value} {β β' : Beta} (hx : Ext β β') : ∀ {x : AVal} {v : Value}, VR ρ β x v → VR ρ β' x v
  | _, _, .bool b => .bool b
  | _, _, .int k n => .int k n
  | _, _, .str h hc => .str h hc
  | _, _, .ptr h => .ptr (hx _ _ h)
  | _, _, .gptr g o => .gptr g o
  | _, _, .nilptr => .nilptr
  | _, _, .slice h hs hl hc he hz => .slice (hx _ _ h) hs hl hc he hz
  | _, _, .nilslice => .nilslice
  | _, _, .map h => .map (hx _ _ h)
  | _, _, .nilmap => .nilmap
  | _, _, .func h1 h2 => .func (VRs.mono hx h1) (VRs.mono hx h2)
  | _, _, .nilfunc => .nilfunc
  | _, _, .iface h => .iface (VR.mono hx h)
  | _, _, .niliface => .niliface
  | _, _, .agg h h1 => .agg (VRs.mono hx h) h1
  | _, _, .tuple h => .tuple (VRs.mono hx h)
  | _, _, .opq i h hb => .opq i h hb
theorem VRs.mono {ρ : Nat → Value} {β β' : Beta} (hx : Ext β β') : ∀ {x : List AVal} {v : List Value}, VRs ρ β x v → VRs ρ β' x v
  | _, _, .nil => .nil
  | _, _, .cons h hs => .cons (VR.mono hx h) (VRs.mono hx hs)
end

section lists
variable {ρ : Nat → Value} {β : Beta}
theorem VRs.length {xs : List AVal} {vs : List Value} (h : VRs ρ β xs vs) : xs.length = vs.length := by
  induction xs generalizing vs with
  | nil => cases h; rfl
  | cons x xs ih => cases h with | cons h hs => simp [ih hs]
theorem VRs.get {xs : List AVal} {vs : List Value} (h : VRs ρ β xs vs) {i : Nat} {x : AVal} (hi : xs[i]? = some x) : ∃ v, vs[i]? = some v ∧ VR ρ β x v := by
  induction xs generalizing vs i with
  | nil => simp at hi
  | cons y ys ih =>
    cases h with
    | cons h hs =>
      cases i with
      | zero => simp only [List.getElem?_cons_zero, Option.some.injEq] at hi; subst hi; exact ⟨_, rfl, h⟩
      | succ i => exact ih hs (by simpa using hi)
theorem VRs.append {xs ys : List AVal} {vs ws : List Value} (h : VRs ρ β xs vs) (h' : VRs ρ β ys ws) : VRs ρ β (xs ++ ys) (vs ++ ws) := by
  induction xs generalizing vs with
  | nil => cases h; exact h'
  | cons x xs ih => cases h with | cons h hs => exact .cons h (ih hs)
theorem VRs.take {xs : List AVal} {vs : List Value} (h : VRs ρ β xs vs) (n : Nat) : VRs ρ β (xs.take n) (vs.take n) := by
  induction xs generalizing vs n with
  | nil => cases h; simpa using VRs.nil
  | cons x xs ih => cases h with | cons h hs => cases n with
    | zero => exact .nil
    | succ n => exact .cons h (ih hs n)
theorem VRs.drop {xs : List AVal} {vs : List Value} (h : VRs ρ β xs vs) (n : Nat) : VRs ρ β (xs.drop n) (vs.drop n) := by
  induction xs generalizing vs n with
  | nil => cases h; simpa using VRs.nil
  | cons x xs ih => cases h with | cons h hs => cases n with
    | zero => exact .cons h hs
    | succ n => exact ih hs n
theorem VRs.of_get {xs : List AVal} {vs : List Value} (hl : xs.length = vs.length) (h : ∀ (i : Nat) (x : AVal), xs[i]? = some x → ∃ v, vs[i]? = some v ∧ VR ρ β x v) : VRs ρ β xs vs := by
  induction xs generalizing vs with
  | nil => cases vs with | nil => exact .nil | cons v vs => simp at hl
  | cons x xs ih =>
    cases vs with
    | nil => simp at hl
    | cons v vs =>
      obtain ⟨v', hv, hr⟩ := h 0 x rfl
      simp only [List.getElem?_cons_zero, Option.some.injEq] at hv
      subst hv
      exact .cons hr (ih (by simpa using hl) fun i y hy => by simpa using h (i + 1) y (by simpa using hy))
end lists

def EntsR (ρ : Nat → Value) (β : Beta) : List Ent → List MapEntry → Prop
  | [], [] => True
  | e :: es, m :: ms => VR ρ β e.key m.key ∧ VR ρ β e.val m.val ∧ e.born = m.born ∧ EntsR ρ β es ms
  | _, _ => False
theorem EntsR.mono {ρ : Nat → Value} {β β' : Beta} (hx : Ext β β') : ∀ {es : List Ent} {ms : List MapEntry}, EntsR ρ β es ms → EntsR ρ β' es ms
  | [], [], _ => trivial
  | _ :: _, _ :: _, ⟨h1, h2, h3, h4⟩ => ⟨h1.mono hx, h2.mono hx, h3, EntsR.mono hx h4⟩
  | [], _ :: _, h => h.elim
  | _ :: _, [], h => h.elim

/-- A trie's known cells, and where they lie in a row. -/
def CellsR (ρ : Nat → Value) (β : Beta) (sh ext : Nat) (t : T AVal) (c : Array Value) : Prop :=
  ∀ i v, t.get i = some v → i < ext ∧ ∃ cv, c[sh + i]? = some cv ∧ VR ρ β v cv ∧ cv.oneCell' = true

def BlkR (ρ : Nat → Value) (β : Beta) (L : Loc) : Blk → Obj → Prop
  | .cells e ext fz t, .cells c e' fr => L.sh = 0 ∧ e' = e ∧ c.size = L.sz ∧ CellsR ρ β L.sh ext t c ∧ (fr.1 = fr.2 ∨ fr.2 ≤ L.sh + fz)
  | .map es clock, .map ms clock' => clock' = clock ∧ L.sh = 0 ∧ EntsR ρ β es ms.toList
  | .siter len code pos, .stringIter s pos' => pos' = pos ∧ L.sh = 0 ∧ s.data.toList = decode len code ∧ code < 256 ^ len
  | _, _ => False
theorem CellsR.mono {ρ : Nat → Value} {β β' : Beta} (hx : Ext β β') {sh ext : Nat} {t : T AVal} {c : Array Value} (h : CellsR ρ β sh ext t c) : CellsR ρ β' sh ext t c :=
  fun i v hi => let ⟨h1, cv, h2, h3, h4⟩ := h i v hi; ⟨h1, cv, h2, h3.mono hx, h4⟩
theorem BlkR.mono {ρ : Nat → Value} {β β' : Beta} (hx : Ext β β') {L : Loc} : ∀ {b : Blk} {o : Obj}, BlkR ρ β L b o → BlkR ρ β' L b o
  | .cells .., .cells .., ⟨h0, h1, h2, h3, h4⟩ => ⟨h0, h1, h2, h3.mono hx, h4⟩
  | .map .., .map .., ⟨h1, h2, h3⟩ => ⟨h1, h2, h3.mono hx⟩
  | .siter .., .stringIter .., h => h
  | .miter .., _, h => h.elim
  | .cells .., .pending .., h | .cells .., .view .., h | .cells .., .number .., h | .cells .., .map .., h | .cells .., .chan .., h | .cells .., .stringIter .., h
  | .cells .., .mapIter .., h | .cells .., .loop .., h | .cells .., .deferred .., h | .cells .., .coro .., h | .cells .., .finalizers .., h => h.elim
  | .map .., .pending .., h | .map .., .view .., h | .map .., .number .., h | .map .., .cells .., h | .map .., .chan .., h | .map .., .stringIter .., h
  | .map .., .mapIter .., h | .map .., .loop .., h | .map .., .deferred .., h | .map .., .coro .., h | .map .., .finalizers .., h => h.elim
  | .siter .., .pending .., h | .siter .., .view .., h | .siter .., .number .., h | .siter .., .map .., h | .siter .., .chan .., h | .siter .., .cells .., h
  | .siter .., .mapIter .., h | .siter .., .loop .., h | .siter .., .deferred .., h | .siter .., .coro .., h | .siter .., .finalizers .., h => h.elim

/-- The environment of a run: opaque values, the variables of the package, the first block of the run's own. -/
structure Env where
  ρ : Nat → Value
  G : Nat → Option AVal
  base : Nat

structure Rel (E : Env) (β : Beta) (h : Hp) (w : World) : Prop where
  blk : ∀ b x, h.get b = some x → b < h.next ∧ ∃ L o, β b = some L ∧ E.base ≤ L.blk ∧ w.heap[L.blk]? = some o ∧ BlkR E.ρ β L x o
  inj : ∀ b b' x x' L L', h.get b = some x → h.get b' = some x' → β b = some L → β b' = some L' → L.blk = L'.blk → b = b'
  fresh : ∀ b, h.next ≤ b → β b = none
  glob : ∀ g v, E.G g = some v → g < E.base ∧ ∃ cv, w.cell? ⟨g, 0, none⟩ = some cv ∧ ∀ β', VR E.ρ β' v cv
  size : E.base ≤ w.heap.size

/-- What a piece of a run leaves alone. -/
structure Frm (β : Beta) (h : Hp) (w : World) (β' : Beta) (h' : Hp) (w' : World) : Prop where
  next : h.next ≤ h'.next
  ext : ∀ b, b < h.next → β' b = β b
  size : w.heap.size ≤ w'.heap.size
  same : ∀ k, k < w.heap.size → (∀ b x L, h.get b = some x → β b = some L → L.blk ≠ k) → w'.heap[k]? = w.heap[k]?
  range : ∀ b x L, h'.get b = some x → β' b = some L → L.blk < w.heap.size → ∃ b0 x0 L0, h.get b0 = some x0 ∧ β b0 = some L0 ∧ L0.blk = L.blk
  dom : ∀ b, b < h.next → h.get b = none → h'.get b = none
  os : w'.os = w.os
  tape : w'.tape = w.tape
  output : w'.output = w.output

theorem Frm.refl (β : Beta) (h : Hp) (w : World) : Frm β h w β h w :=
  ⟨Nat.le_refl _, fun _ _ => rfl, Nat.le_refl _, fun _ _ _ => rfl, fun b x L h1 h2 _ => ⟨b, x, L, h1, h2, rfl⟩, fun _ _ h => h, rfl, rfl, rfl⟩
theorem Frm.trans {β β' β'' : Beta} {h h' h'' : Hp} {w w' w'' : World} (f : Frm β h w β' h' w') (g : Frm β' h' w' β'' h'' w'') : Frm β h w β'' h'' w'' where
  next := Nat.le_trans f.next g.next
  ext := fun b hb => (g.ext b (Nat.lt_of_lt_of_le hb f.next)).trans (f.ext b hb)
  size := Nat.le_trans f.size g.size
  same := fun k hk hn => by
    rw [g.same k (Nat.lt_of_lt_of_le hk f.size) ?_, f.same k hk hn]
    intro b x L hb hL e
    subst e
    obtain ⟨b0, x0, L0, h1, h2, h3⟩ := f.range b x L hb hL hk
    exact hn b0 x0 L0 h1 h2 h3
  range := fun b x L hb hL hlt => by
    obtain ⟨b0, x0, L0, h1, h2, h3⟩ := g.range b x L hb hL (Nat.lt_of_lt_of_le hlt f.size)
    obtain ⟨b1, x1, L1, h4, h5, h6⟩ := f.range b0 x0 L0 h1 h2 (by omega)
    exact ⟨b1, x1, L1, h4, h5, h6.trans h3⟩
  dom := fun b hb hn => g.dom b (Nat.lt_of_lt_of_le hb f.next) (f.dom b hb hn)
  os := g.os.trans f.os
  tape := g.tape.trans f.tape
  output := g.output.trans f.output

theorem Frm.Ext {E : Env} {β β' : Beta} {h h' : Hp} {w w' : World} (f : Frm β h w β' h' w') (r : Rel E β h w) : Ae.Ext β β' := fun b L hb => by
  by_cases hlt : b < h.next
  · rw [f.ext b hlt]; exact hb
  · rw [r.fresh b (by omega)] at hb; cases hb

/-- The frame's slots. -/
structure FrR (E : Env) (β : Beta) (n : Nat) (fr : T AVal) (a : Act) : Prop where
  size : n ≤ a.tmps.size
  val : ∀ t, VR E.ρ β ((fr.get t).getD .undef) (a.tmps.getD t undef)
  defers : a.defers = []
theorem FrR.mono {E : Env} {β β' : Beta} {n : Nat} {fr : T AVal} {a : Act} (hx : Ae.Ext β β') (h : FrR E β n fr a) : FrR E β' n fr a := ⟨h.size, fun t => (h.val t).mono hx, h.defers⟩
theorem FrR.put {E : Env} {β : Beta} {n : Nat} {fr : T AVal} {a : Act} (h : FrR E β n fr a) {v : AVal} {cv : Value} (hv : VR E.ρ β v cv) (dst : Option Tmp) (hd : ∀ d, dst = some d → d < n) : FrR E β n (putA fr dst v) (a.put dst cv) := by
  cases dst with
  | none => exact h
  | some d =>
    have hlt : d < a.tmps.size := Nat.lt_of_lt_of_le (hd d rfl) h.size
    refine ⟨by simp [Act.put]; exact h.size, fun t => ?_, h.defers⟩
    simp only [putA, T.get_set, Act.put]
    by_cases e : d = t
    · subst e; rw [if_pos rfl]; simpa [Array.getD, hlt] using hv
    · rw [if_neg e]
      have := h.val t
      rw [Array.getD_eq_getD_getElem?] at this ⊢
      rw [Array.getElem?_setIfInBounds_ne e]
      exact this
end Go.Ae
/- Making, writing, leaving of blocks, on both sides. -/
set_option linter.unusedVariables false
set_option linter.unusedSimpArgs false
namespace Go.Ae
open Go

theorem Hp.get_put (h : Hp) (b b' : Nat) (x : Blk) : (h.put b x).get b' = if b = b' then some x else h.get b' := T.get_set _ _ _ _
theorem Hp.get_new (h : Hp) (b' : Nat) (x : Blk) : (h.new x).get b' = if h.next = b' then some x else h.get b' := T.get_set _ _ _ _
theorem Hp.get_kill (h : Hp) (b b' : Nat) : (h.kill b).get b' = if b = b' then none else h.get b' := T.get_del _ _ _

def upd (β : Beta) (b : Nat) (L : Loc) : Beta := fun i => if i = b then some L else β i
theorem upd_same (β : Beta) (b : Nat) (L : Loc) : upd β b L b = some L := by simp [upd]
theorem upd_ne {β : Beta} {b i : Nat} {L : Loc} (h : i ≠ b) : upd β b L i = β i := by simp [upd, h]
theorem Ext.upd {β : Beta} {b : Nat} {L : Loc} (h : β b = none) : Ext β (upd β b L) := fun i L' hi => by
  by_cases e : i = b
  · subst e; rw [h] at hi; cases hi
  · rw [upd_ne e]; exact hi

section
variable {E : Env} {β : Beta} {h : Hp} {w w' : World}

theorem Rel.fresh_get (r : Rel E β h w) {b : Nat} (hb : h.next ≤ b) : h.get b = none := by
  cases e : h.get b with
  | none => rfl
  | some x => exact absurd (r.blk b x e).1 (by omega)

theorem Rel.lt (r : Rel E β h w) {b : Nat} {x : Blk} {L : Loc} (hb : h.get b = some x) (hL : β b = some L) : E.base ≤ L.blk ∧ L.blk < w.heap.size := by
  obtain ⟨_, L', o, h1, h2, h3, _⟩ := r.blk b x hb
  rw [hL] at h1; cases h1
  exact ⟨h2, (Array.getElem?_eq_some_iff.1 h3).1⟩

theorem glob_keep (r : Rel E β h w) (hs : ∀ k, k < E.base → w'.heap[k]? = w.heap[k]?) : ∀ g v, E.G g = some v → g < E.base ∧ ∃ cv, w'.cell? ⟨g, 0, none⟩ = some cv ∧ ∀ β', VR E.ρ β' v cv := by
  intro g v hg
  obtain ⟨h1, cv, h2, h3⟩ := r.glob g v hg
  refine ⟨h1, cv, ?_, h3⟩
  rw [← h2]
  simp only [World.cell?, hs g h1]

/-- Only the heap counts. -/
theorem Rel.of_heap (r : Rel E β h w) (he : w'.heap = w.heap) : Rel E β h w' where
  blk := by rw [he]; exact r.blk
  inj := r.inj
  fresh := r.fresh
  glob := glob_keep r fun k _ => by rw [he]
  size := by rw [he]; exact r.size
theorem Frm.of_heap (he : w'.heap = w.heap) (h1 : w'.os = w.os) (h2 : w'.tape = w.tape) (h3 : w'.output = w.output) : Frm β h w β h w' :=
  ⟨Nat.le_refl _, fun _ _ => rfl, by rw [he]; exact Nat.le_refl _, fun _ _ _ => by rw [he], fun b x L h1 h2 _ => ⟨b, x, L, h1, h2, rfl⟩, fun _ _ h => h, h1, h2, h3⟩

/-- A new block behind all others, under a number of its own. -/
theorem Rel.push (r : Rel E β h w) {id : Nat} {x : Blk} {o : Obj} {sz next : Nat} (hid : β id = none) (hw : w'.heap = w.heap.push o) (hn : h.next ≤ next) (hlt : id < next)
    (hb : BlkR E.ρ (upd β id ⟨w.heap.size, 0, sz⟩) ⟨w.heap.size, 0, sz⟩ x o) : Rel E (upd β id ⟨w.heap.size, 0, sz⟩) ⟨h.t.set id x, next⟩ w' := by
  have hold : ∀ k, k < w.heap.size → w'.heap[k]? = w.heap[k]? := fun k hk => by rw [hw]; simp [Array.getElem?_push, Nat.ne_of_lt hk]
  have hg : ∀ b, (⟨h.t.set id x, next⟩ : Hp).get b = if id = b then some x else h.get b := fun b => T.get_set _ _ _ _
  refine ⟨?_, ?_, ?_, ?_, ?_⟩
  · intro b y hy
    rw [hg] at hy
    split at hy
    · rename_i e; subst e; cases hy
      exact ⟨hlt, _, o, upd_same _ _ _, r.size, by rw [hw]; simp, hb⟩
    · rename_i e
      obtain ⟨h1, L, o', h2, h3, h4, h5⟩ := r.blk b y hy
      exact ⟨Nat.lt_of_lt_of_le h1 hn, L, o', by rw [upd_ne (Ne.symm e)]; exact h2, h3, by rw [hold _ (Array.getElem?_eq_some_iff.1 h4).1]; exact h4, h5.mono (Ext.upd hid)⟩
  · intro b b' y y' L L' hy hy' hL hL' e
    rw [hg] at hy hy'
    by_cases e1 : id = b
    · by_cases e2 : id = b'
      · omega
      · subst e1
        rw [upd_same] at hL; cases hL
        rw [if_neg e2] at hy'
        rw [upd_ne (Ne.symm e2)] at hL'
        have := (r.lt hy' hL').2
        simp only at e; omega
    · by_cases e2 : id = b'
      · subst e2
        rw [upd_same] at hL'; cases hL'
        rw [if_neg e1] at hy
        rw [upd_ne (Ne.symm e1)] at hL
        have := (r.lt hy hL).2
        simp only at e; omega
      · rw [if_neg e1] at hy; rw [if_neg e2] at hy'
        rw [upd_ne (Ne.symm e1)] at hL; rw [upd_ne (Ne.symm e2)] at hL'
        exact r.inj b b' y y' L L' hy hy' hL hL' e
  · intro b hb
    have hb' : next ≤ b := hb
    rw [upd_ne (by omega)]
    exact r.fresh b (by omega)
  · exact glob_keep r fun k hk => hold k (Nat.lt_of_lt_of_le hk r.size)
  · rw [hw]; simp; have := r.size; omega

theorem Frm.push (r : Rel E β h w) {x : Blk} {o : Obj} {sz : Nat} (hw : w'.heap = w.heap.push o) (h1 : w'.os = w.os) (h2 : w'.tape = w.tape) (h3 : w'.output = w.output) :
    Frm β h w (upd β h.next ⟨w.heap.size, 0, sz⟩) (h.new x) w' where
  next := Nat.le_succ _
  ext := fun b hb => upd_ne (by omega)
  size := by rw [hw]; simp
  same := fun k hk _ => by rw [hw]; simp [Array.getElem?_push, Nat.ne_of_lt hk]
  range := fun b y L hb hL hlt => by
    rw [Hp.get_new] at hb
    by_cases e : h.next = b
    · subst e
      rw [upd_same] at hL; cases hL
      simp only at hlt; omega
    · rw [if_neg e] at hb
      rw [upd_ne (Ne.symm e)] at hL
      exact ⟨b, y, L, hb, hL, rfl⟩
  dom := fun b hb hn => by rw [Hp.get_new, if_neg (by omega)]; exact hn
  os := h1
  tape := h2
  output := h3

/-- A block is written. -/
theorem Rel.write (r : Rel E β h w) {b : Nat} {x x' : Blk} {L : Loc} {o' : Obj} (hb : h.get b = some x) (hL : β b = some L) (hs : ∀ k, k ≠ L.blk → w'.heap[k]? = w.heap[k]?)
    (hz : w'.heap.size = w.heap.size) (ho : w'.heap[L.blk]? = some o') (hB : BlkR E.ρ β L x' o') : Rel E β (h.put b x') w' := by
  refine ⟨?_, ?_, r.fresh, ?_, by rw [hz]; exact r.size⟩
  · intro b' y hy
    rw [Hp.get_put] at hy
    split at hy
    · rename_i e; subst e; cases hy
      exact ⟨(r.blk b x hb).1, L, o', hL, (r.lt hb hL).1, ho, hB⟩
    · rename_i e
      obtain ⟨h1, L', o'', h2, h3, h4, h5⟩ := r.blk b' y hy
      refine ⟨h1, L', o'', h2, h3, ?_, h5⟩
      rw [hs _ fun e' => e (r.inj b b' x y L L' hb hy hL h2 e'.symm)]
      exact h4
  · intro b1 b2 y1 y2 L1 L2 h1 h2 hL1 hL2 e
    rw [Hp.get_put] at h1 h2
    by_cases e1 : b = b1
    · by_cases e2 : b = b2
      · omega
      · subst e1; rw [if_neg e2] at h2
        exact r.inj b b2 x y2 L1 L2 hb h2 hL1 hL2 e
    · by_cases e2 : b = b2
      · subst e2; rw [if_neg e1] at h1
        exact r.inj b1 b y1 x L1 L2 h1 hb hL1 hL2 e
      · rw [if_neg e1] at h1; rw [if_neg e2] at h2
        exact r.inj b1 b2 y1 y2 L1 L2 h1 h2 hL1 hL2 e
  · exact glob_keep r fun k hk => hs k (by have := (r.lt hb hL).1; omega)

theorem Frm.write (r : Rel E β h w) {b : Nat} {x x' : Blk} {L : Loc} (hb : h.get b = some x) (hL : β b = some L) (hs : ∀ k, k ≠ L.blk → w'.heap[k]? = w.heap[k]?)
    (hz : w'.heap.size = w.heap.size) (h1 : w'.os = w.os) (h2 : w'.tape = w.tape) (h3 : w'.output = w.output) : Frm β h w β (h.put b x') w' where
  next := Nat.le_refl _
  ext := fun _ _ => rfl
  size := by rw [hz]; exact Nat.le_refl _
  same := fun k _ hn => hs k fun e => hn b x L hb hL e.symm
  range := fun b' y L' hy hL' _ => by
    rw [Hp.get_put] at hy
    by_cases e : b = b'
    · subst e; exact ⟨b, x, L', hb, hL', rfl⟩
    · rw [if_neg e] at hy; exact ⟨b', y, L', hy, hL', rfl⟩
  dom := fun b' _ hn => by
    rw [Hp.get_put, if_neg (fun e => by subst e; rw [hb] at hn; cases hn)]; exact hn
  os := h1
  tape := h2
  output := h3

theorem Rel.kill (r : Rel E β h w) (b : Nat) : Rel E β (h.kill b) w where
  blk := fun b' y hy => by
    rw [Hp.get_kill] at hy
    split at hy
    · cases hy
    · exact r.blk b' y hy
  inj := fun b1 b2 y1 y2 L1 L2 h1 h2 => by
    rw [Hp.get_kill] at h1 h2
    split at h1
    · cases h1
    · split at h2
      · cases h2
      · exact r.inj b1 b2 y1 y2 L1 L2 h1 h2
  fresh := r.fresh
  glob := r.glob
  size := r.size
theorem Frm.kill (b : Nat) : Frm β h w β (h.kill b) w :=
  ⟨Nat.le_refl _, fun _ _ => rfl, Nat.le_refl _, fun _ _ _ => rfl, fun b' x L h1 h2 _ => by
    rw [Hp.get_kill] at h1
    split at h1
    · cases h1
    · exact ⟨b', x, L, h1, h2, rfl⟩, fun b' _ hn => by
    rw [Hp.get_kill]
    split
    · rfl
    · exact hn, rfl, rfl, rfl⟩

/-- A block goes on under another number, seen from another place; the old number is gone. -/
theorem Rel.move (r : Rel E β h w) {b : Nat} {x x' : Blk} {L : Loc} {o' : Obj} {d : Nat} (hb : h.get b = some x) (hL : β b = some L) (hs : ∀ k, k ≠ L.blk → w'.heap[k]? = w.heap[k]?)
    (hz : w'.heap.size = w.heap.size) (ho : w'.heap[L.blk]? = some o') (hB : BlkR E.ρ (upd β h.next ⟨L.blk, L.sh + d, L.sz⟩) ⟨L.blk, L.sh + d, L.sz⟩ x' o') :
    Rel E (upd β h.next ⟨L.blk, L.sh + d, L.sz⟩) ((h.kill b).new x') w' := by
  have hbn : b < h.next := (r.blk b x hb).1
  have hg : ∀ b', ((h.kill b).new x').get b' = if h.next = b' then some x' else if b = b' then none else h.get b' := fun b' => by
    rw [Hp.get_new, Hp.get_kill]; rfl
  have hx : Ext β (upd β h.next ⟨L.blk, L.sh + d, L.sz⟩) := Ext.upd (r.fresh _ (Nat.le_refl _))
  refine ⟨?_, ?_, ?_, ?_, by rw [hz]; exact r.size⟩
  · intro b' y hy
    rw [hg] at hy
    split at hy
    · rename_i e; subst e; cases hy
      exact ⟨Nat.lt_succ_self _, _, o', upd_same _ _ _, (r.lt hb hL).1, ho, hB⟩
    · split at hy
      · cases hy
      · rename_i e1 e2
        obtain ⟨h1, L', o'', h2, h3, h4, h5⟩ := r.blk b' y hy
        refine ⟨Nat.lt_succ_of_lt h1, L', o'', by rw [upd_ne (Ne.symm e1)]; exact h2, h3, ?_, h5.mono hx⟩
        rw [hs _ fun e' => e2 (r.inj b b' x y L L' hb hy hL h2 e'.symm)]
        exact h4
  · intro b1 b2 y1 y2 L1 L2 h1 h2 hL1 hL2 e
    rw [hg] at h1 h2
    by_cases e1 : h.next = b1
    · by_cases e2 : h.next = b2
      · omega
      · subst e1
        rw [upd_same] at hL1; cases hL1
        rw [if_neg e2] at h2
        rw [upd_ne (Ne.symm e2)] at hL2
        split at h2
        · cases h2
        · rename_i e3
          exact absurd (r.inj b b2 x y2 L L2 hb h2 hL hL2 e) e3
    · by_cases e2 : h.next = b2
      · subst e2
        rw [upd_same] at hL2; cases hL2
        rw [if_neg e1] at h1
        rw [upd_ne (Ne.symm e1)] at hL1
        split at h1
        · cases h1
        · rename_i e3
          exact absurd (r.inj b b1 x y1 L L1 hb h1 hL hL1 e.symm) e3
      · rw [if_neg e1] at h1; rw [if_neg e2] at h2
        rw [upd_ne (Ne.symm e1)] at hL1; rw [upd_ne (Ne.symm e2)] at hL2
        split at h1
        · cases h1
        · split at h2
          · cases h2
          · exact r.inj b1 b2 y1 y2 L1 L2 h1 h2 hL1 hL2 e
  · intro b' hb'
    have : h.next + 1 ≤ b' := hb'
    rw [upd_ne (by omega)]
    exact r.fresh b' (by omega)
  · exact glob_keep r fun k hk => hs k (by have := (r.lt hb hL).1; omega)

theorem Frm.move (r : Rel E β h w) {b : Nat} {x x' : Blk} {L : Loc} {d : Nat} (hb : h.get b = some x) (hL : β b = some L) (hs : ∀ k, k ≠ L.blk → w'.heap[k]? = w.heap[k]?)
    (hz : w'.heap.size = w.heap.size) (h1 : w'.os = w.os) (h2 : w'.tape = w.tape) (h3 : w'.output = w.output) :
    Frm β h w (upd β h.next ⟨L.blk, L.sh + d, L.sz⟩) ((h.kill b).new x') w' where
  next := Nat.le_succ _
  ext := fun b' hb' => upd_ne (by omega)
  size := by rw [hz]; exact Nat.le_refl _
  same := fun k _ hn => hs k fun e => hn b x L hb hL e.symm
  range := fun b' y L' hy hL' _ => by
    have hg : ((h.kill b).new x').get b' = if h.next = b' then some x' else if b = b' then none else h.get b' := by rw [Hp.get_new, Hp.get_kill]; rfl
    rw [hg] at hy
    by_cases e : h.next = b'
    · subst e; rw [upd_same] at hL'; cases hL'; exact ⟨b, x, L, hb, hL, rfl⟩
    · rw [if_neg e] at hy
      rw [upd_ne (Ne.symm e)] at hL'
      split at hy
      · cases hy
      · exact ⟨b', y, L', hy, hL', rfl⟩
  dom := fun b' hb' hn => by
    rw [Hp.get_new, if_neg (by show ¬ h.next = b'; omega), Hp.get_kill]
    split
    · rfl
    · exact hn
  os := h1
  tape := h2
  output := h3
end
end Go.Ae
/- Operations that look at no memory: the model's answer is the evaluator's. -/
set_option linter.unusedSimpArgs false
set_option linter.unusedVariables false
namespace Go.Ae
open Go

section
variable {P : Program} {E : Env} {β : Beta}

theorem isCell_eq (v : Value) : isCell v = v.oneCell' := by cases v <;> rfl

mutual
theorem ofConst_sound : ∀ (k : Nat) (v : Value) (x : AVal), ofConst k v = some x → VR E.ρ β x v
  | 0, v, x, h => by simp [ofConst] at h
  | k + 1, .bool b, x, h => by simp only [ofConst, Option.some.injEq] at h; subst h; exact .bool b
  | k + 1, .int i n, x, h => by simp only [ofConst, Option.some.injEq] at h; subst h; exact .int i n
  | k + 1, .string s, x, h => by
    simp only [ofConst, Option.some.injEq] at h; subst h
    have e : s.size = s.data.toList.length := by rw [Array.length_toList]; rfl
    exact .str (by rw [e, decode_codeOf]) (by rw [e]; exact codeOf_lt _)
  | k + 1, .pointer none, x, h => by simp only [ofConst, Option.some.injEq] at h; subst h; exact .nilptr
  | k + 1, .slice none 0 0, x, h => by simp only [ofConst, Option.some.injEq] at h; subst h; exact .nilslice
  | k + 1, .map none, x, h => by simp only [ofConst, Option.some.injEq] at h; subst h; exact .nilmap
  | k + 1, .nilFunc, x, h => by simp only [ofConst, Option.some.injEq] at h; subst h; exact .nilfunc
  | k + 1, .nilIface, x, h => by simp only [ofConst, Option.some.injEq] at h; subst h; exact .niliface
  | k + 1, .agg cs, x, h => by
    simp only [ofConst] at h
    cases hc : cs.toList.all isCell with
    | false => rw [hc, cond_false] at h; cases h
    | true =>
      rw [hc, cond_true] at h
      cases hl : ofConsts k cs.toList with
      | none => rw [hl] at h; cases h
      | some l =>
        rw [hl] at h; simp only [Option.map_some, Option.some.injEq] at h; subst h
        exact .agg (ofConsts_sound k _ _ hl) fun v hv => by rw [← isCell_eq]; exact List.all_eq_true.1 hc v hv
  | k + 1, .tuple cs, x, h => by
    simp only [ofConst] at h
    cases hl : ofConsts k cs.toList with
    | none => rw [hl] at h; cases h
    | some l =>
      rw [hl] at h; simp only [Option.map_some, Option.some.injEq] at h; subst h
      exact .tuple (ofConsts_sound k _ _ hl)
  | k + 1, .iface t v, x, h => by
    simp only [ofConst] at h
    cases hl : ofConst k v with
    | none => rw [hl] at h; cases h
    | some l =>
      rw [hl] at h; simp only [Option.map_some, Option.some.injEq] at h; subst h
      exact .iface (ofConst_sound k _ _ hl)
  | k + 1, .pointer (some a), x, h => by simp [ofConst] at h
  | k + 1, .slice (some a) n c, x, h => by simp [ofConst] at h
  | k + 1, .slice none (n + 1) c, x, h => by simp [ofConst] at h
  | k + 1, .slice none 0 (c + 1), x, h => by simp [ofConst] at h
  | k + 1, .map (some r), x, h => by simp [ofConst] at h
  | k + 1, .float .., x, h | k + 1, .complex .., x, h | k + 1, .chan .., x, h | k + 1, .func .., x, h => by simp [ofConst] at h
theorem ofConsts_sound : ∀ (k : Nat) (v : List Value) (x : List AVal), ofConsts k v = some x → VRs E.ρ β x v
  | 0, v, x, h => by simp [ofConsts] at h
  | k + 1, [], x, h => by simp only [ofConsts, Option.some.injEq] at h; subst h; exact .nil
  | k + 1, v :: l, x, h => by
    simp only [ofConsts, Option.bind_eq_bind, Option.pure_def] at h
    cases h1 : ofConst k v with
    | none => rw [h1] at h; cases h
    | some y =>
      cases h2 : ofConsts k l with
      | none => rw [h1, h2] at h; cases h
      | some ys =>
        rw [h1, h2] at h; simp only [Option.bind_some, Option.some.injEq] at h; subst h
        exact .cons (ofConst_sound k v y h1) (ofConsts_sound k l ys h2)
end

variable {n : Nat} {fr : T AVal} {a : Act}
theorem opdA_sound (hf : FrR E β n fr a) {x : Operand} {v : AVal} (h : opdA fr x = some v) : VR E.ρ β v (a.eval x) := by
  cases x with
  | tmp t => simp only [opdA, Option.some.injEq] at h; subst h; exact hf.val t
  | const c => exact ofConst_sound _ _ _ h
  | global g => simp only [opdA, Option.some.injEq] at h; subst h; exact .gptr g 0
  | func f => simp only [opdA, Option.some.injEq] at h; subst h; exact .func .nil .nil
theorem opdsA_sound (hf : FrR E β n fr a) : ∀ {l : List Operand} {vs : List AVal}, opdsA fr l = some vs → VRs E.ρ β vs (l.map a.eval)
  | [], vs, h => by simp only [opdsA, Option.some.injEq] at h; subst h; exact .nil
  | x :: l, vs, h => by
    simp only [opdsA, Option.bind_eq_bind, Option.pure_def] at h
    cases h1 : opdA fr x with
    | none => rw [h1] at h; cases h
    | some y =>
      cases h2 : opdsA fr l with
      | none => rw [h1, h2] at h; cases h
      | some ys =>
        rw [h1, h2] at h; simp only [Option.bind_some, Option.some.injEq] at h; subst h
        exact .cons (opdA_sound hf h1) (opdsA_sound hf h2)
/-- Parts of a literal. -/
inductive PartsR (E : Env) (β : Beta) : List (Nat × AVal) → List (Nat × Value) → Prop where
  | nil : PartsR E β [] []
  | cons {i : Nat} {x : AVal} {v : Value} {xs : List (Nat × AVal)} {vs : List (Nat × Value)} (h : VR E.ρ β x v) (hs : PartsR E β xs vs) : PartsR E β ((i, x) :: xs) ((i, v) :: vs)
theorem partsA_sound (hf : FrR E β n fr a) : ∀ {l : List (Nat × Operand)} {vs : List (Nat × AVal)}, partsA fr l = some vs → PartsR E β vs (l.map fun (i, x) => (i, a.eval x))
  | [], vs, h => by simp only [partsA, Option.some.injEq] at h; subst h; exact .nil
  | (i, x) :: l, vs, h => by
    simp only [partsA, Option.bind_eq_bind, Option.pure_def] at h
    cases h1 : opdA fr x with
    | none => rw [h1] at h; cases h
    | some y =>
      cases h2 : partsA fr l with
      | none => rw [h1, h2] at h; cases h
      | some ys =>
        rw [h1, h2] at h; simp only [Option.bind_some, Option.some.injEq] at h; subst h
        exact .cons (opdA_sound hf h1) (partsA_sound hf h2)

/-! Types. -/
theorem sizeT_sound {t : TypeId} {k : Nat} (h : sizeT P t = some k) (w : World) : (sizeOf t).run P w = .ok k w := by
  unfold sizeT at h
  cases hi : P.info? t with
  | none => rw [hi] at h; cases h
  | some i => rw [hi] at h; simp only [Option.map_some, Option.some.injEq] at h; subst h; simp [sizeOf, typeInfo, hi]
theorem aggT_sound {t : TypeId} {b : Bool} (h : aggT P t = some b) (w : World) : (isAgg t).run P w = .ok b w := by
  unfold aggT und at h
  cases hu : P.underlying t with
  | none => rw [hu] at h; cases h
  | some d => rw [hu] at h; cases d <;> simp at h <;> subst h <;> simp [isAgg, run_underlying hu]
theorem zeroT_sound {t : TypeId} {z : AVal} (h : zeroT P t = some z) : ∃ cz, (∃ i, P.info? t = some i ∧ i.zero = some cz) ∧ (∀ w, (zeroValue t).run P w = .ok cz w) ∧ VR E.ρ β z cz := by
  unfold zeroT at h
  cases hi : P.info? t with
  | none => rw [hi] at h; cases h
  | some i =>
    rw [hi] at h
    simp only [Option.bind_some] at h
    cases hz : i.zero with
    | none => rw [hz] at h; cases h
    | some cz =>
      rw [hz] at h
      exact ⟨cz, ⟨i, rfl, hz⟩, fun w => by simp [zeroValue, typeInfo, hi, hz], ofConst_sound _ _ _ h⟩

theorem VR.cells {x : AVal} {v : Value} (h : VR E.ρ β x v) (ht : x.isTuple = false) : VRs E.ρ β x.cells v.cells.toList ∧ ∀ u ∈ v.cells.toList, u.oneCell' = true := by
  cases h with
  | agg h h1 => exact ⟨h, h1⟩
  | tuple h => cases ht
  | opq i h hb =>
    have hc : (E.ρ i).cells = #[E.ρ i] := by cases hv : E.ρ i <;> first | rfl | (rw [hv] at h; cases h)
    rw [hc]
    exact ⟨.cons (.opq i h hb) .nil, fun u hu => by simp at hu; subst hu; exact h⟩
  | str h hc => exact ⟨.cons (.str h hc) .nil, fun u hu => by simp [Value.cells] at hu; subst hu; rfl⟩
  | bool b => exact ⟨.cons (.bool b) .nil, fun u hu => by simp [Value.cells] at hu; subst hu; rfl⟩
  | int k m => exact ⟨.cons (.int k m) .nil, fun u hu => by simp [Value.cells] at hu; subst hu; rfl⟩
  | ptr h => exact ⟨.cons (.ptr h) .nil, fun u hu => by simp [Value.cells] at hu; subst hu; rfl⟩
  | gptr g o => exact ⟨.cons (.gptr g o) .nil, fun u hu => by simp [Value.cells] at hu; subst hu; rfl⟩
  | nilptr => exact ⟨.cons .nilptr .nil, fun u hu => by simp [Value.cells] at hu; subst hu; rfl⟩
  | slice h hs hl hc he hz => exact ⟨.cons (.slice h hs hl hc he hz) .nil, fun u hu => by simp [Value.cells] at hu; subst hu; rfl⟩
  | nilslice => exact ⟨.cons .nilslice .nil, fun u hu => by simp [Value.cells] at hu; subst hu; rfl⟩
  | map h => exact ⟨.cons (.map h) .nil, fun u hu => by simp [Value.cells] at hu; subst hu; rfl⟩
  | nilmap => exact ⟨.cons .nilmap .nil, fun u hu => by simp [Value.cells] at hu; subst hu; rfl⟩
  | func h1 h2 => exact ⟨.cons (.func h1 h2) .nil, fun u hu => by simp [Value.cells] at hu; subst hu; rfl⟩
  | nilfunc => exact ⟨.cons .nilfunc .nil, fun u hu => by simp [Value.cells] at hu; subst hu; rfl⟩
  | iface h => exact ⟨.cons (.iface h) .nil, fun u hu => by simp [Value.cells] at hu; subst hu; rfl⟩
  | niliface => exact ⟨.cons .niliface .nil, fun u hu => by simp [Value.cells] at hu; subst hu; rfl⟩

/-- A part of an aggregate. -/
theorem partA_sound {t : TypeId} {cs : List AVal} {vs : Array Value} {off : Nat} {v : AVal} (h : partA P t cs off = some v) (hr : VRs E.ρ β cs vs.toList) (h1 : ∀ u ∈ vs.toList, u.oneCell' = true) :
    ∃ cv, (∀ w, (part t vs off).run P w = .ok cv w) ∧ VR E.ρ β v cv := by
  unfold partA at h
  cases ha : aggT P t with
  | none => rw [ha] at h; cases h
  | some b =>
    rw [ha] at h
    cases b with
    | true =>
      cases hs : sizeT P t with
      | none => rw [hs] at h; cases h
      | some k =>
        rw [hs] at h; simp only [Option.some.injEq] at h; subst h
        refine ⟨.agg (vs.extract off (off + k)), fun w => by simp [part, aggT_sound ha, sizeT_sound hs], .agg ?_ ?_⟩
        · rw [Array.toList_extract]
          simpa [List.extract] using (hr.drop off).take k
        · intro u hu
          rw [Array.toList_extract] at hu
          exact h1 u (List.mem_of_mem_drop (List.mem_of_mem_take hu))
    | false =>
      simp only at h
      obtain ⟨cv, hcv, hv⟩ := hr.get h
      have hcv' : vs[off]? = some cv := by simpa using hcv
      exact ⟨cv, fun w => by simp [part, aggT_sound ha, hcv'], hv⟩

/-! Literals. -/
theorem splice_length : ∀ (cs : List AVal) (off : Nat) (xs : List AVal), (splice cs off xs).length = cs.length
  | [], 0, [] => rfl
  | c :: cs, 0, [] => rfl
  | [], 0, x :: xs => rfl
  | [], off + 1, xs => rfl
  | _ :: cs, 0, x :: xs => by simp [splice, splice_length cs 0 xs]
  | c :: cs, off + 1, xs => by simp [splice, splice_length cs off xs]
theorem splice_get : ∀ (cs : List AVal) (off : Nat) (xs : List AVal) (i : Nat), off + xs.length ≤ cs.length → (splice cs off xs)[i]? = if off ≤ i ∧ i < off + xs.length then xs[i - off]? else cs[i]?
  | cs, 0, [], i, h => by cases cs <;> (simp only [splice]; rw [if_neg (by simp)])
  | [], 0, x :: xs, i, h => by simp at h
  | [], off + 1, xs, i, h => by simp at h
  | c :: cs, 0, x :: xs, i, h => by
    cases i with
    | zero => simp [splice]
    | succ i =>
      simp only [splice, List.getElem?_cons_succ]
      rw [splice_get cs 0 xs i (by simpa using h)]
      by_cases hi : i < xs.length
      · rw [if_pos (by omega), if_pos (by simp; omega)]; simp
      · rw [if_neg (by omega), if_neg (by simp; omega)]
  | c :: cs, off + 1, xs, i, h => by
    cases i with
    | zero => simp [splice]
    | succ i =>
      simp only [splice, List.getElem?_cons_succ]
      rw [splice_get cs off xs i (by simp at h; omega)]
      by_cases hi : off ≤ i ∧ i < off + xs.length
      · rw [if_pos hi, if_pos (by omega)]; congr 1; omega
      · rw [if_neg hi, if_neg (by omega)]

theorem setAll_size (off : Nat) : ∀ (xs : List Value) (k : Nat) (cs : Array Value), ((xs.zipIdx k).foldl (fun cs (c, j) => cs.setIfInBounds (off + j) c) cs).size = cs.size
  | [], k, cs => rfl
  | x :: xs, k, cs => by simp only [List.zipIdx_cons, List.foldl_cons]; rw [setAll_size off xs]; simp
theorem setAll_get (off : Nat) : ∀ (xs : List Value) (k : Nat) (cs : Array Value) (i : Nat), off + k + xs.length ≤ cs.size →
    ((xs.zipIdx k).foldl (fun cs (c, j) => cs.setIfInBounds (off + j) c) cs)[i]? = if off + k ≤ i ∧ i < off + k + xs.length then xs[i - (off + k)]? else cs[i]?
  | [], k, cs, i, h => by simp only [List.zipIdx_nil, List.foldl_nil]; rw [if_neg (by simp)]
  | x :: xs, k, cs, i, h => by
    simp only [List.zipIdx_cons, List.foldl_cons]
    simp only [List.length_cons] at h
    rw [setAll_get off xs (k + 1) _ i (by simp; omega)]
    by_cases h0 : i = off + k
    · subst h0
      rw [if_neg (by omega), if_pos (by simp)]
      have : off + k < cs.size := by omega
      simp [this]
    · by_cases hi : off + (k + 1) ≤ i ∧ i < off + (k + 1) + xs.length
      · rw [if_pos hi, if_pos (by simp; omega)]
        have : i - (off + k) = (i - (off + (k + 1))) + 1 := by omega
        rw [this, List.getElem?_cons_succ]
      · rw [if_neg hi, if_neg (by simp; omega)]
        rw [Array.getElem?_setIfInBounds_ne (by omega)]

theorem fillP_sound {place : Nat → Option (Nat × Nat)} : ∀ {ps : List (Nat × AVal)} {vs : List (Nat × Value)} {cs out : List AVal} {cz : Array Value},
    fillP place ps cs = some out → PartsR E β ps vs → VRs E.ρ β cs cz.toList → (∀ u ∈ cz.toList, u.oneCell' = true) →
    ∃ cout, Instr.fill place cz vs = some cout ∧ VRs E.ρ β out cout.toList ∧ (∀ u ∈ cout.toList, u.oneCell' = true) ∧ cout.size = cz.size
  | [], vs, cs, out, cz, h, hp, hr, h1 => by
    cases hp
    simp only [fillP, Option.some.injEq] at h; subst h
    exact ⟨cz, rfl, hr, h1, rfl⟩
  | (i, x) :: ps, vs, cs, out, cz, h, hp, hr, h1 => by
    cases hp with
    | @cons _ _ v _ vs hx hps =>
    simp only [fillP] at h
    cases hpl : place i with
    | none => rw [hpl] at h; cases h
    | some os =>
      obtain ⟨off, size⟩ := os
      rw [hpl] at h
      simp only at h
      cases hb : (!x.isTuple && Nat.beq x.cells.length size && Nat.ble (off + x.cells.length) cs.length) with
      | false => rw [hb, cond_false] at h; cases h
      | true =>
        rw [hb, cond_true] at h
        simp only [Bool.and_eq_true, Bool.not_eq_true'] at hb
        obtain ⟨⟨hb1, hb2⟩, hb3⟩ := hb
        have hsz := Nat.eq_of_beq_eq_true hb2
        have hle := Nat.le_of_ble_eq_true hb3
        obtain ⟨hc, hone⟩ := hx.cells hb1
        have hcl : v.cells.size = x.cells.length := by rw [hc.length]; simp
        have hzl : cz.size = cs.length := by rw [hr.length]; simp
        have hn : ¬ ((v.cells.size ≠ size || decide (off + v.cells.size > cz.size)) = true) := by simp; omega
        have hfold : (v.cells.zipIdx.foldl (fun cs (c, j) => cs.setIfInBounds (off + j) c) cz) = ((v.cells.toList.zipIdx 0).foldl (fun cs (c, j) => cs.setIfInBounds (off + j) c) cz) := by
          rw [← Array.foldl_toList]; simp
        have hget : ∀ k, ((v.cells.toList.zipIdx 0).foldl (fun cs (c, j) => cs.setIfInBounds (off + j) c) cz)[k]? = if off ≤ k ∧ k < off + v.cells.size then v.cells.toList[k - off]? else cz[k]? := fun k => by
          have := setAll_get off v.cells.toList 0 cz k (by simp; omega)
          simpa using this
        have hsz2 : ((v.cells.toList.zipIdx 0).foldl (fun cs (c, j) => cs.setIfInBounds (off + j) c) cz).size = cz.size := setAll_size off v.cells.toList 0 cz
        have hr' : VRs E.ρ β (splice cs off x.cells) ((v.cells.toList.zipIdx 0).foldl (fun cs (c, j) => cs.setIfInBounds (off + j) c) cz).toList := by
          refine VRs.of_get (by rw [splice_length]; simp only [Array.length_toList]; rw [hsz2]; omega) fun k y hy => ?_
          rw [splice_get _ _ _ _ hle] at hy
          have hk := hget k
          simp only [Array.getElem?_toList]
          rw [hk]
          by_cases hi : off ≤ k ∧ k < off + x.cells.length
          · rw [if_pos hi] at hy
            rw [if_pos (by omega)]
            exact hc.get hy
          · rw [if_neg hi] at hy
            rw [if_neg (by omega)]
            obtain ⟨u, hu, hv⟩ := hr.get hy
            exact ⟨u, by simpa using hu, hv⟩
        have h1' : ∀ u ∈ ((v.cells.toList.zipIdx 0).foldl (fun cs (c, j) => cs.setIfInBounds (off + j) c) cz).toList, u.oneCell' = true := by
          intro u hu
          obtain ⟨k, hk⟩ := List.getElem?_of_mem hu
          simp only [Array.getElem?_toList] at hk
          rw [hget k] at hk
          split at hk
          · exact hone u (List.mem_of_getElem? hk)
          · exact h1 u (List.mem_of_getElem? (by simpa using hk))
        obtain ⟨cout, ho1, ho2, ho3, ho4⟩ := fillP_sound h hps hr' h1'
        refine ⟨cout, ?_, ho2, ho3, by rw [ho4, hsz2]⟩
        simp only [Instr.fill, hpl]
        rw [if_neg (by simpa using hn), hfold]
        exact ho1
end
end Go.Ae
/- Operations that look at no memory, one by one. -/
set_option linter.unusedSimpArgs false
set_option linter.unusedVariables false
set_option maxHeartbeats 1000000
namespace Go.Ae
open Go

section
variable {P : Program} {E : Env} {β : Beta}

/-- A piece of the model that answers the same in every world, and what it answers. -/
def Says (P : Program) (E : Env) (β : Beta) (s : Sem Value) (v : AVal) : Prop := ∃ cv, (∀ w, s.run P w = .ok cv w) ∧ VR E.ρ β v cv
theorem Says.pure {v : AVal} {cv : Value} (h : VR E.ρ β v cv) : Says P E β (Pure.pure cv) v := ⟨cv, fun w => rfl, h⟩

theorem cmp_sound {op : BinOp} {x y : Int} {v : AVal} (h : cmpA op x y = some v) : Says P E β (Op.intCmp op x y) v := by
  cases op <;> simp only [cmpA, Option.some.injEq] at h <;> first | (cases h; done) | (subst h; exact Says.pure (.bool _))

theorem wrap_toNat_small (k : IntKind) (r : Nat) (h : (r : Int) ≤ k.max) : k.wrap r = r := by
  unfold IntKind.wrap
  unfold IntKind.max at h
  cases k <;> simp [IntKind.bits, IntKind.signed] at h ⊢ <;> omega

theorem str_beq {n m a b : Nat} {s t : ByteArray} (hs : s.data.toList = decode n a) (ha : a < 256 ^ n) (ht : t.data.toList = decode m b) (hb : b < 256 ^ m) :
    (s.toList == t.toList) = (Nat.beq n m && Nat.beq a b) := by
  rw [ByteArray.toList_eq, ByteArray.toList_eq, hs, ht]
  rw [Bool.eq_iff_iff]
  simp only [beq_iff_eq, Bool.and_eq_true]
  constructor
  · intro e
    have hl : n = m := by have := congrArg List.length e; simpa using this
    subst hl
    exact ⟨Nat.beq_refl _, by rw [decode_inj ha hb e]; exact Nat.beq_refl _⟩
  · rintro ⟨h1, h2⟩
    rw [Nat.eq_of_beq_eq_true h1, Nat.eq_of_beq_eq_true h2]

theorem less_sound : ∀ (n m a b : Nat), Op.bytesLess (decode n a) (decode m b) = lessL n m a b
  | 0, 0, a, b => rfl
  | n + 1, 0, a, b => rfl
  | 0, m + 1, a, b => rfl
  | n + 1, m + 1, a, b => by
    simp only [decode, Op.bytesLess, lessL]
    rw [less_sound n m]
    have h1 : ∀ x y : Nat, x < 256 → y < 256 → (decide (UInt8.ofNat x < UInt8.ofNat y)) = Nat.blt x y := by
      intro x y hx hy
      rw [Bool.eq_iff_iff]
      simp only [decide_eq_true_eq, UInt8.lt_iff_toNat_lt, UInt8.toNat_ofNat', Nat.blt_eq]
      rw [Nat.mod_eq_of_lt hx, Nat.mod_eq_of_lt hy]
    have h2 : ∀ x y : Nat, x < 256 → y < 256 → (UInt8.ofNat x == UInt8.ofNat y) = Nat.beq x y := by
      intro x y hx hy
      rw [Bool.eq_iff_iff]
      simp only [beq_iff_eq]
      constructor
      · intro e
        have := congrArg UInt8.toNat e
        simp only [UInt8.toNat_ofNat'] at this
        rw [Nat.mod_eq_of_lt hx, Nat.mod_eq_of_lt hy] at this
        rw [this]; exact Nat.beq_refl _
      · intro e
        rw [Nat.eq_of_beq_eq_true e]
    have ha : a % 256 < 256 := Nat.mod_lt _ (by omega)
    have hb : b % 256 < 256 := Nat.mod_lt _ (by omega)
    rw [h1 _ _ ha hb, h2 _ _ ha hb]

theorem size_of_data {s : ByteArray} {n a : Nat} (hs : s.data.toList = decode n a) : s.size = n := by
  have : s.size = s.data.toList.length := by rw [Array.length_toList]; rfl
  rw [this, hs, decode_length]

theorem bits_and (k : IntKind) (a b : Nat) (ha : (a : Int) ≤ k.max) : True := trivial

/-- The eqGuard passes. -/
theorem guard_sound {op : BinOp} {t : TypeId} {ox oy : Operand} {x y : AVal} {cx cy : Value} (hx : VR E.ρ β x cx) (hy : VR E.ρ β y cy)
    (hg : guardA P (isConstO ox || isConstO oy) t x y = true) (w : World) : (eqGuard op t ox oy cx cy).run P w = .ok () w := by
  by_cases hop : (op matches .eql | .neq) = true
  case neg => cases op <;> first | rfl | (exact absurd rfl hop)
  cases hx <;> first
    | (cases op <;> rfl)
    | skip
  · -- nil interface
    cases hy <;> first
      | (cases op <;> rfl)
      | skip
    · simp only [guardA] at hg
      cases ox <;> cases oy <;> simp [isConstO] at hg <;> cases op <;> rfl
    · simp [guardA] at hg
  · cases hy <;> first
      | (cases op <;> rfl)
      | skip
    · simp only [guardA, Bool.not_eq_true'] at hg
      exact run_eqGuard_agg w op t ox oy _ _ hg
    · simp [guardA] at hg
  · simp [guardA] at hg

theorem eqFs_sound {eq : TypeId → AVal → AVal → Option Bool} {d : Nat} {xs ys : List AVal} {vs ws : Array Value} (hx : VRs E.ρ β xs vs.toList) (hx1 : ∀ u ∈ vs.toList, u.oneCell' = true)
    (hy : VRs E.ρ β ys ws.toList) (hy1 : ∀ u ∈ ws.toList, u.oneCell' = true)
    (ih : ∀ t x y cx cy b, eq t x y = some b → VR E.ρ β x cx → VR E.ρ β y cy → ∀ w, (Op.equalIn d t cx cy).run P w = .ok b w) :
    ∀ (fs : List Field) (b : Bool), eqFs P eq xs ys fs = some b → ∀ w, (Op.eqFields d vs ws fs).run P w = .ok b w
  | [], b, h, w => by simp only [eqFs, Option.some.injEq] at h; subst h; rfl
  | f :: fs, b, h, w => by
    simp only [eqFs] at h
    cases hn : (f.name == "_") with
    | true => rw [hn, cond_true] at h; cases h
    | false =>
      rw [hn, cond_false] at h
      have hne : f.name ≠ "_" := by intro e; rw [e] at hn; simp at hn
      cases h1 : partA P f.type xs f.offset with
      | none => rw [h1] at h; cases h
      | some p =>
        cases h2 : partA P f.type ys f.offset with
        | none => rw [h1, h2] at h; cases h
        | some q =>
          rw [h1, h2] at h
          simp only at h
          obtain ⟨cp, hp, hvp⟩ := partA_sound h1 hx hx1
          obtain ⟨cq, hq, hvq⟩ := partA_sound h2 hy hy1
          cases he : eq f.type p q with
          | none => rw [he] at h; cases h
          | some r =>
            have hr := ih f.type p q cp cq r he hvp hvq
            rw [he] at h
            simp only [Op.eqFields]
            rw [if_pos hne]
            simp only [Sem.run_bind, hp, hq, hr, Result.andThen_ok]
            cases r with
            | false => simp only [Option.some.injEq] at h; subst h; rfl
            | true => simpa using eqFs_sound hx hx1 hy hy1 ih fs b h w

theorem eqA_sound : ∀ (d D : Nat) (t : TypeId) (x y : AVal) (cx cy : Value) (b : Bool), d ≤ D → eqA P d t x y = some b → VR E.ρ β x cx → VR E.ρ β y cy →
    ∀ w, (Op.equalIn D t cx cy).run P w = .ok b w
  | 0, D, t, x, y, cx, cy, b, hD, h, hx, hy, w => by simp [eqA] at h
  | d + 1, 0, t, x, y, cx, cy, b, hD, h, hx, hy, w => by omega
  | d + 1, D + 1, t, x, y, cx, cy, b, hD, h, hx, hy, w => by
    unfold eqA und at h
    split at h
    · rename_i hu; cases hx; cases hy; simp only [Option.some.injEq] at h; subst h
      simp [Op.equalIn, run_underlying hu]
    · rename_i hu; cases hx; cases hy
      rename_i k n k' m
      cases hk : (k == k') with
      | false => rw [hk] at h; cases h
      | true =>
        rw [hk, cond_true] at h; simp only [Option.some.injEq] at h; subst h
        have := eq_of_beq hk; subst this
        simp [Op.equalIn, run_underlying hu]
    · rename_i hu; cases hx; cases hy; simp only [Option.some.injEq] at h; subst h
      rename_i s hs ha s' ht hb
      simp only [Op.equalIn, run_underlying hu, Sem.run_bind, Result.andThen_ok, Sem.run_pure, beq_toListBytes, str_beq hs ha ht hb]
    · rename_i hu; cases hx; cases hy; simp only [Option.some.injEq] at h; subst h
      simp [Op.equalIn, run_underlying hu]
    · rename_i hu; cases hx; cases hy; simp only [Option.some.injEq] at h; subst h
      simp [Op.equalIn, run_underlying hu]
    · rename_i hu; cases hx; cases hy; simp only [Option.some.injEq] at h; subst h
      simp [Op.equalIn, run_underlying hu]
    · rename_i e a i b' j hu
      cases hx; cases hy
      rename_i L hL L' hL'
      cases hsz : sizeT P e with
      | none => rw [hsz] at h; cases h
      | some k =>
        cases k with
        | zero => rw [hsz] at h; cases h
        | succ k =>
          rw [hsz] at h
          simp only at h
          cases hab : Nat.beq a b' with
          | false => rw [hab] at h; cases h
          | true =>
            rw [hab, cond_true] at h; simp only [Option.some.injEq] at h; subst h
            have := Nat.eq_of_beq_eq_true hab; subst this
            rw [hL] at hL'; cases hL'
            have : (({ block := L.blk, off := L.sh + i, spot := none } : Addr) == { block := L.blk, off := L.sh + j, spot := none }) = Nat.beq i j := by
              rw [Bool.eq_iff_iff]
              simp only [beq_iff_eq, Addr.mk.injEq, true_and, and_true]
              constructor
              · intro e; have : i = j := by omega
                rw [this]; exact Nat.beq_refl _
              · intro e; rw [Nat.eq_of_beq_eq_true e]
            simp [Op.equalIn, run_underlying hu, sizeT_sound hsz, sameAddr, this]
    · rename_i hu; cases hx; cases hy; simp only [Option.some.injEq] at h; subst h
      simp [Op.equalIn, run_underlying hu]
    · rename_i hu; cases hx; cases hy; simp only [Option.some.injEq] at h; subst h
      simp [Op.equalIn, run_underlying hu]
    · rename_i hu; cases hx; cases hy; simp only [Option.some.injEq] at h; subst h
      simp [Op.equalIn, run_underlying hu]
    · rename_i tx vx ty vy hu
      cases hx; cases hy
      rename_i cx hx cy hy
      cases ht : Nat.beq tx ty with
      | false =>
        rw [ht, cond_false] at h; simp only [Option.some.injEq] at h; subst h
        have : tx ≠ ty := fun e => by subst e; rw [Nat.beq_refl] at ht; cases ht
        simp [Op.equalIn, run_underlying hu, this]
      | true =>
        rw [ht, cond_true] at h
        have := Nat.eq_of_beq_eq_true ht; subst this
        cases hi : P.info? tx with
        | none => rw [hi] at h; cases h
        | some i =>
          rw [hi] at h; simp only at h
          cases hc : i.comparable with
          | false => rw [hc] at h; cases h
          | true =>
            rw [hc, cond_true] at h
            have := eqA_sound d D tx vx vy cx cy b (by omega) h hx hy w
            simp [Op.equalIn, run_underlying hu, typeInfo, hi, hc, this]
    · rename_i fields xs ys hu
      cases hx with | @agg _ vs hxs hx1 =>
      cases hy with | @agg _ ws hys hy1 =>
      cases hst : P.stoodInHeld t with
      | true => rw [hst, cond_true] at h; cases h
      | false =>
        rw [hst, cond_false] at h
        have hf : P.fieldsOf t = fields := by simp [Program.fieldsOf, hu]
        rw [run_equalIn_struct w D t vs ws (by rw [hf]; exact hu) hst, hf]
        exact eqFs_sound hxs hx1 hys hy1 (fun t x y cx cy b he hx hy w => eqA_sound d D t x y cx cy b (by omega) he hx hy w) _ _ h w
    all_goals first
      | (rename_i hu; cases hx; cases hy; simp only [Option.some.injEq] at h; subst h; simp [Op.equalIn, run_underlying hu]; done)
      | (cases h; done)

theorem toNat_ofInt {k : Nat} {x : Int} (h : 0 ≤ x) : (BitVec.ofInt k x).toNat = x.toNat % 2 ^ k := by
  obtain ⟨n, rfl⟩ := Int.eq_ofNat_of_zero_le h
  simp

theorem bits_sound {op : BinOp} {t : TypeId} {ox oy : Operand} {k : IntKind} {a b : Int} {v : AVal} (hop : op = .and ∨ op = .or ∨ op = .xor ∨ op = .andNot) (h : bitsA op k a b = some v)
    (hg : ∀ w, (eqGuard op t ox oy (.int k a) (.int k b)).run P w = .ok () w) : Says P E β (do eqGuard op t ox oy (.int k a) (.int k b); binOp op t (.int k a) (.int k b)) v := by
  unfold bitsA at h
  cases hc : (decide (0 ≤ a) && decide (0 ≤ b)) with
  | false => rw [hc] at h; cases h
  | true =>
    rw [hc, cond_true] at h
    simp only [Bool.and_eq_true, decide_eq_true_eq] at hc
    obtain ⟨ha, hb⟩ := hc
    have e1 := toNat_ofInt (k := k.bits) ha
    have e2 := toNat_ofInt (k := k.bits) hb
    rcases hop with rfl | rfl | rfl | rfl <;> simp only [Option.some.injEq] at h <;> first | (cases h; done) | subst h
    · exact ⟨_, fun w => by simp only [Sem.run_bind, hg, Result.andThen_ok, binOp, if_neg (show ¬ (k ≠ k) by simp), Op.intBits, BitVec.toNat_and, e1, e2, Sem.run_pure]; rfl, .int _ _⟩
    · exact ⟨_, fun w => by simp only [Sem.run_bind, hg, Result.andThen_ok, binOp, if_neg (show ¬ (k ≠ k) by simp), Op.intBits, BitVec.toNat_or, e1, e2, Sem.run_pure]; rfl, .int _ _⟩
    · exact ⟨_, fun w => by simp only [Sem.run_bind, hg, Result.andThen_ok, binOp, if_neg (show ¬ (k ≠ k) by simp), Op.intBits, BitVec.toNat_xor, e1, e2, Sem.run_pure]; rfl, .int _ _⟩

theorem binOp_eql_any {lit : Bool} {t : TypeId} {x y : AVal} {cx cy : Value} (hx : VR E.ρ β x cx) (hy : VR E.ρ β y cy) (h1 : ∀ k a k' b, x = .int k a → y = .int k' b → False) (h2 : ∀ n a m b, x = .str n a → y = .str m b → False)
    (hg : guardA P lit t x y = true) : binOp .eql t cx cy = (do Pure.pure (.bool (← Op.equal t cx cy))) := by
  cases hx <;> first
    | rfl
    | (cases hy <;> first | rfl | exact (h1 _ _ _ _ rfl rfl).elim | exact (h2 _ _ _ _ rfl rfl).elim | (simp [guardA] at hg; done))
    | (simp [guardA] at hg; done)
theorem binOp_neq_any {lit : Bool} {t : TypeId} {x y : AVal} {cx cy : Value} (hx : VR E.ρ β x cx) (hy : VR E.ρ β y cy) (h1 : ∀ k a k' b, x = .int k a → y = .int k' b → False) (h2 : ∀ n a m b, x = .str n a → y = .str m b → False)
    (hg : guardA P lit t x y = true) : binOp .neq t cx cy = (do Pure.pure (.bool (!(← Op.equal t cx cy)))) := by
  cases hx <;> first
    | rfl
    | (cases hy <;> first | rfl | exact (h1 _ _ _ _ rfl rfl).elim | exact (h2 _ _ _ _ rfl rfl).elim | (simp [guardA] at hg; done))
    | (simp [guardA] at hg; done)

theorem data_append (x y : ByteArray) : (x ++ y).data.toList = x.data.toList ++ y.data.toList := by
  rw [ByteArray.data_append, Array.toList_append]

theorem bin_sound {op : BinOp} {t : TypeId} {ox oy : Operand} {x y : AVal} {cx cy : Value} {v : AVal} (h : binA P op (isConstO ox || isConstO oy) t x y = some v) (hx : VR E.ρ β x cx) (hy : VR E.ρ β y cy) :
    Says P E β (do eqGuard op t ox oy cx cy; binOp op t cx cy) v := by
  unfold binA at h
  split at h
  · -- numbers
    cases hx; cases hy
    rename_i k a k' b
    have hg : ∀ w, (eqGuard op t ox oy (.int k a) (.int k' b)).run P w = .ok () w := fun w => by cases op <;> rfl
    split at h
    · cases hb : decide (b < 0) with
      | true => rw [hb] at h; cases h
      | false =>
        rw [hb, cond_false] at h; simp only [Option.some.injEq] at h; subst h
        have hb' : ¬ b < 0 := by simpa using hb
        exact ⟨_, fun w => by simp [hg, binOp, Op.shift, hb'], .int _ _⟩
    · cases hb : decide (b < 0) with
      | true => rw [hb] at h; cases h
      | false =>
        rw [hb, cond_false] at h; simp only [Option.some.injEq] at h; subst h
        have hb' : ¬ b < 0 := by simpa using hb
        exact ⟨_, fun w => by simp [hg, binOp, Op.shift, hb'], .int _ _⟩
    · rename_i h1 h2
      cases hk : (k == k') with
      | false => rw [hk] at h; cases h
      | true =>
        rw [hk, cond_true] at h
        have := eq_of_beq hk; subst this
        split at h
        · simp only [Option.some.injEq] at h; subst h; exact ⟨_, fun w => by simp [hg, binOp, Op.intArith], .int _ _⟩
        · simp only [Option.some.injEq] at h; subst h; exact ⟨_, fun w => by simp [hg, binOp, Op.intArith], .int _ _⟩
        · simp only [Option.some.injEq] at h; subst h; exact ⟨_, fun w => by simp [hg, binOp, Op.intArith], .int _ _⟩
        · cases hb : (b == 0) with
          | true => rw [hb] at h; cases h
          | false =>
            rw [hb, cond_false] at h; simp only [Option.some.injEq] at h; subst h
            have hb' : b ≠ 0 := by simpa using hb
            exact ⟨_, fun w => by simp [hg, binOp, Op.intDiv, hb'], .int _ _⟩
        · cases hb : (b == 0) with
          | true => rw [hb] at h; cases h
          | false =>
            rw [hb, cond_false] at h; simp only [Option.some.injEq] at h; subst h
            have hb' : b ≠ 0 := by simpa using hb
            exact ⟨_, fun w => by simp [hg, binOp, Op.intDiv, hb'], .int _ _⟩
        · exact bits_sound (by rename_i hop; simp) h hg
        · exact bits_sound (by simp) h hg
        · exact bits_sound (by simp) h hg
        · exact bits_sound (by simp) h hg
        · rename_i h3 h4 h5 h6 h7 h8 h9 h10 h11
          obtain ⟨cv, hr, hv⟩ := cmp_sound (P := P) (E := E) (β := β) h
          refine ⟨cv, fun w => ?_, hv⟩
          cases op <;> first
            | (simp [cmpA] at h; done)
            | (simp only [Sem.run_bind, hg, Result.andThen_ok]; rw [← hr w]; simp [binOp])
  · cases hx; cases hy
    rename_i n a m b s hs ha s' ht hb
    have hg : ∀ w, (eqGuard op t ox oy (.string s) (.string s')).run P w = .ok () w := fun w => by cases op <;> rfl
    have e1 := str_beq hs ha ht hb
    have e2 : Op.bytesLess s.toList s'.toList = lessL n m a b := by
      rw [ByteArray.toList_eq, ByteArray.toList_eq, hs, ht, less_sound]
    have hb' : ∀ w, (binOp op t (.string s) (.string s')).run P w = (Op.stringOp op s s').run P w := fun w => by cases op <;> rfl
    cases op <;> simp only [Option.some.injEq] at h <;> first | (cases h; done) | subst h | skip
    · cases hle : Nat.ble (n + m) (2 ^ 62) with
      | false => rw [hle] at h; cases h
      | true =>
        rw [hle, cond_true] at h; simp only [Option.some.injEq] at h; subst h
        have hle' := Nat.le_of_ble_eq_true hle
        have hsz : ¬ (((s.size + s'.size : Nat) : Int) > IntKind.i64.max) := by
          rw [size_of_data hs, size_of_data ht, IntKind.max_i64]; omega
        refine ⟨.string (s ++ s'), fun w => by simp only [Sem.run_bind, hg, Result.andThen_ok, hb', Op.stringOp, if_neg hsz, Sem.run_pure], .str ?_ (append_lt ha hb)⟩
        rw [data_append, hs, ht, decode_append _ _ _ _ ha]
    all_goals exact ⟨_, fun w => by simp only [Sem.run_bind, hg, Result.andThen_ok, hb', Op.stringOp, e1, e2, Sem.run_pure], .bool _⟩
  · rename_i hn1 hn2
    cases hg : guardA P (isConstO ox || isConstO oy) t x y with
    | false => rw [hg] at h; cases h
    | true =>
      rw [hg, cond_true] at h
      have hgs := guard_sound (P := P) (op := op) hx hy hg
      cases op <;> simp only at h <;> first | (cases h; done) | skip
      · cases he : eqA P 20 t x y with
        | none => rw [he] at h; cases h
        | some b =>
          rw [he] at h; simp only [Option.map_some, Option.some.injEq] at h; subst h
          have hr := eqA_sound 20 10000 t x y cx cy b (by omega) he hx hy
          exact ⟨.bool b, fun w => by simp only [Sem.run_bind, hgs, Result.andThen_ok, binOp_eql_any hx hy hn1 hn2 hg, Op.equal, Op.maxDepth, hr, Sem.run_pure], .bool _⟩
      · cases he : eqA P 20 t x y with
        | none => rw [he] at h; cases h
        | some b =>
          rw [he] at h; simp only [Option.map_some, Option.some.injEq] at h; subst h
          have hr := eqA_sound 20 10000 t x y cx cy b (by omega) he hx hy
          exact ⟨.bool !b, fun w => by simp only [Sem.run_bind, hgs, Result.andThen_ok, binOp_neq_any hx hy hn1 hn2 hg, Op.equal, Op.maxDepth, hr, Sem.run_pure], .bool _⟩
end
end Go.Ae
/- Operations that look at no memory, all of them. -/
set_option linter.unusedSimpArgs false
set_option linter.unusedVariables false
set_option maxHeartbeats 1000000
namespace Go.Ae
open Go

section
variable {P : Program} {E : Env} {β : Beta}

theorem un_sound {op : UnOp} {x : AVal} {cx : Value} {v : AVal} (h : unA op x = some v) (hx : VR E.ρ β x cx) : Says P E β (Op.unary op cx) v := by
  unfold unA at h
  split at h
  · cases hx; split at h
    · simp only [Option.some.injEq] at h; subst h; exact Says.pure (.bool _)
    · cases h
  · cases hx; split at h
    · simp only [Option.some.injEq] at h; subst h; exact Says.pure (.int _ _)
    · cases h
  · cases h

theorem convP_sound {src dst : TypeId} {x : AVal} {cx : Value} {v : AVal} (h : convP P src dst x = some v) (hx : VR E.ρ β x cx) : Says P E β (convert src dst cx) v := by
  unfold convP und at h
  split at h
  · rename_i hs hd; cases hx; simp only [Option.some.injEq] at h; subst h
    refine ⟨_, fun w => ?_, .int _ _⟩
    simp only [convert, run_underlying hs, run_underlying hd, Sem.run_bind, Result.andThen_ok, Conv.intToInt, Sem.run_pure]
  · rename_i hs hd
    cases hx with | @str _ _ s h1 h2 =>
    simp only [Option.some.injEq] at h; subst h
    exact ⟨.string s, fun w => by simp [convert, run_underlying hs, run_underlying hd], .str h1 h2⟩
  · rename_i hs hd; cases hx; simp only [Option.some.injEq] at h; subst h
    rename_i n
    refine ⟨.string (Utf8.encode n), fun w => by simp [convert, run_underlying hs, run_underlying hd, Conv.intToString], ?_⟩
    have e : (Utf8.encode n).size = (Utf8.encode n).data.toList.length := by rw [Array.length_toList]; rfl
    exact .str (by rw [e, decode_codeOf]) (by rw [e]; exact codeOf_lt _)
  · cases h

theorem bound_sound {x : AVal} {cx : Value} {y k : Nat} {c : Nat} {code : BoundsCode} (h : boundA x y = some k) (hx : VR E.ρ β x cx) (hc : y ≤ c) :
    k ≤ y ∧ ∀ w, (Instr.sliceBound cx c code).run P w = .ok k w := by
  unfold boundA at h
  split at h
  · cases hx
    rename_i k' n
    cases hb : (decide (0 ≤ n) && decide (n ≤ (y : Int))) with
    | false => rw [hb] at h; cases h
    | true =>
      rw [hb, cond_true] at h; simp only [Option.some.injEq] at h; subst h
      simp only [Bool.and_eq_true, decide_eq_true_eq] at hb
      refine ⟨by omega, fun w => ?_⟩
      have : 0 ≤ n ∧ n ≤ (c : Int) := ⟨hb.1, by omega⟩
      simp [Instr.sliceBound, asIntOf, this]
  · cases h

/-- An operand that may be missing. -/
inductive OptR (E : Env) (β : Beta) : Option AVal → Option Value → Prop where
  | none : OptR E β none none
  | some {x : AVal} {v : Value} (h : VR E.ρ β x v) : OptR E β (some x) (some v)

theorem boundO_sound {x : Option AVal} {cx : Option Value} {d y k c : Nat} (h : boundO x d y = some k) (hx : OptR E β x cx) (hd : d ≤ y) (hc : y ≤ c) :
    k ≤ y ∧ ((cx = none ∧ k = d) ∨ ∃ v, cx = some v ∧ ∀ code w, (Instr.sliceBound v c code).run P w = .ok k w) := by
  cases hx with
  | none => simp only [boundO, Option.some.injEq] at h; subst h; exact ⟨hd, .inl ⟨rfl, rfl⟩⟩
  | @some x v hx => exact ⟨(bound_sound (P := P) (code := .index) h hx hc).1, .inr ⟨v, rfl, fun code => (bound_sound h hx hc).2⟩⟩

theorem bounds_sound {isSlice : Bool} {len cap c : Nat} {exact : Bool} {lo hi mx : Option AVal} {clo chi cmx : Option Value} {l h m : Nat} {ex : Bool}
    (hb : boundsA len cap exact lo hi mx = some (l, h, m, ex)) (hlo : OptR E β lo clo) (hhi : OptR E β hi chi) (hmx : OptR E β mx cmx) (hlen : len ≤ cap) (hcap : cap ≤ c) (hex : exact = true → c = cap) :
    l ≤ h ∧ h ≤ m ∧ ∃ m', m ≤ m' ∧ m' ≤ c ∧ (ex = true → m' = m) ∧ ∀ w, (Instr.sliceBounds isSlice len c clo chi cmx).run P w = .ok (l, h, m') w := by
  unfold boundsA at hb
  cases hcnd : (mx.isSome && hi.isNone) with
  | true => rw [hcnd] at hb; cases hb
  | false =>
    rw [hcnd, cond_false] at hb
    cases h1 : boundO mx cap cap with
    | none => rw [h1] at hb; cases hb
    | some m0 =>
      rw [h1] at hb; simp only at hb
      cases h2 : boundO hi len m0 with
      | none => rw [h2] at hb; cases hb
      | some h0 =>
        rw [h2] at hb; simp only at hb
        cases h3 : boundO lo 0 h0 with
        | none => rw [h3] at hb; cases hb
        | some l0 =>
          rw [h3] at hb
          simp only [Option.some.injEq, Prod.mk.injEq] at hb
          obtain ⟨rfl, rfl, rfl, rfl⟩ := hb
          obtain ⟨g1, g1'⟩ := boundO_sound (P := P) h1 hmx (Nat.le_refl _) hcap
          rcases g1' with ⟨rfl, rfl⟩ | ⟨vm, rfl, hm⟩
          · -- no third index
            cases hmx
            obtain ⟨g2, g2'⟩ := boundO_sound (P := P) h2 hhi hlen hcap
            obtain ⟨g3, g3'⟩ := boundO_sound (P := P) h3 hlo (Nat.zero_le _) (Nat.le_refl _)
            refine ⟨g3, g2, c, hcap, Nat.le_refl _, fun e => hex (by simpa using e), fun w => ?_⟩
            rcases g2' with ⟨rfl, rfl⟩ | ⟨vh, rfl, hh⟩ <;> rcases g3' with ⟨rfl, rfl⟩ | ⟨vl, rfl, hl⟩ <;> simp [Instr.sliceBounds, *]
          · cases hmx with
            | some hz =>
              cases hhi with
              | none => simp at hcnd
              | @some y vh hy =>
                have g2 : h0 ≤ m0 := (bound_sound (P := P) (code := .index) h2 hy (Nat.le_refl _)).1
                have hh : ∀ code w, (Instr.sliceBound vh m0 code).run P w = .ok h0 w := fun code => (bound_sound h2 hy (Nat.le_refl _)).2
                obtain ⟨g3, g3'⟩ := boundO_sound (P := P) h3 hlo (Nat.zero_le _) (Nat.le_refl _)
                refine ⟨g3, g2, m0, Nat.le_refl _, Nat.le_trans g1 hcap, fun _ => rfl, fun w => ?_⟩
                rcases g3' with ⟨rfl, rfl⟩ | ⟨vl, rfl, hl⟩ <;> simp [Instr.sliceBounds, *]

theorem slice_sound {t : TypeId} {x : AVal} {cx : Value} {lo hi mx : Option AVal} {clo chi cmx : Option Value} {v : AVal} (h : sliceA P t x lo hi mx = some v) (hx : VR E.ρ β x cx)
    (hlo : OptR E β lo clo) (hhi : OptR E β hi chi) (hmx : OptR E β mx cmx) : Says P E β (Instr.sliceAt t cx clo chi cmx) v := by
  unfold sliceA und at h
  split at h
  · rename_i n a hu
    cases hx with | @str _ _ s h1 h2 =>
    cases hmx with
    | some hz => simp at h
    | none =>
      simp only [Option.isSome_none, Bool.false_eq_true, if_false, Option.bind_eq_bind, Option.pure_def] at h
      cases hb : boundsA n n true lo hi none with
      | none => rw [hb] at h; cases h
      | some r =>
        obtain ⟨l, h', m, ex⟩ := r
        rw [hb] at h; simp only [Option.bind_some, Option.some.injEq] at h; subst h
        obtain ⟨g1, g2, m', g3, g4, g5, g6⟩ := bounds_sound (P := P) (isSlice := false) hb hlo hhi .none (Nat.le_refl _) (Nat.le_refl _) (fun _ => rfl)
        have hsz := size_of_data h1
        refine ⟨.string (s.extract l h'), fun w => ?_, .str ?_ (cut_lt _ _ _)⟩
        · simp only [Instr.sliceAt, run_underlying hu, Sem.run_bind, Result.andThen_ok, Instr.slice, hsz]
          simp [g6]
        · rw [Lib.extract_data, h1, decode_cut n a l h' g1 (by omega)]
  · rename_i e hu
    cases hx
    simp only [Option.bind_eq_bind, Option.pure_def] at h
    cases hb : boundsA 0 0 true lo hi mx with
    | none => rw [hb] at h; cases h
    | some r =>
      obtain ⟨l, h', m, ex⟩ := r
      rw [hb] at h; simp only [Option.bind_some] at h
      obtain ⟨g1, g2, m', g3, g4, g5, g6⟩ := bounds_sound (P := P) (isSlice := true) hb hlo hhi hmx (Nat.le_refl _) (Nat.le_refl _) (fun _ => rfl)
      have e1 : l = 0 := by omega
      have e2 : h' = 0 := by omega
      have e3 : m' = 0 := by omega
      subst e1; subst e2; subst e3
      cases hsz : sizeT P e with
      | none => rw [hsz] at h; cases h
      | some k =>
        rw [hsz] at h; simp only [Option.bind_some, Option.some.injEq] at h; subst h
        exact ⟨.slice none 0 0, fun w => by simp [Instr.sliceAt, run_underlying hu, Instr.slice, g6, sizeT_sound hsz], .nilslice⟩
  · rename_i e b off len cap exact size hu
    cases hx with | @slice _ _ _ _ _ c _ L hL hs hl hc he hz =>
    simp only [Option.bind_eq_bind, Option.pure_def] at h
    cases hb : boundsA len cap exact lo hi mx with
    | none => rw [hb] at h; cases h
    | some r =>
      obtain ⟨l, h', m, ex⟩ := r
      rw [hb] at h; simp only [Option.bind_some] at h
      cases hsz : sizeT P e with
      | none => rw [hsz] at h; cases h
      | some k =>
        rw [hsz] at h; simp only [Option.bind_some] at h
        by_cases hk : k = size
        · subst hk
          rw [if_neg (by simp)] at h
          obtain ⟨g1, g2, m', g3, g4, g5, g6⟩ := bounds_sound (P := P) (isSlice := true) hb hlo hhi hmx hl hc he
          by_cases hcnd : (m = l && !ex && decide (l ≠ 0)) = true
          · rw [if_pos (by simpa using hcnd)] at h; cases h
          · rw [if_neg (by simpa using hcnd)] at h
            simp only [Option.some.injEq] at h; subst h
            have hoff : (if m' = l then (⟨L.blk, L.sh + off, none⟩ : Addr) else (⟨L.blk, L.sh + off, none⟩ : Addr).add (l * k)) = ⟨L.blk, L.sh + (if m = l then off else off + l * k), none⟩ := by
              rw [Addr.add_lit]
              by_cases e1 : m' = l
              · have : m = l := by omega
                rw [if_pos e1, if_pos this]
              · rw [if_neg e1]
                by_cases e2 : m = l
                · rw [if_pos e2]
                  cases ex with
                  | true => exact absurd (g5 rfl) (by omega)
                  | false =>
                    have : l = 0 := by
                      simp [e2] at hcnd; exact hcnd
                    subst this; simp
                · rw [if_neg e2, Nat.add_assoc]
            refine ⟨.slice (some ⟨L.blk, L.sh + (if m = l then off else off + l * k), none⟩) (h' - l) (m' - l), fun w => ?_, .slice hL hs (by omega) (by omega) ?_ ?_⟩
            · simp only [Instr.sliceAt, run_underlying hu, Sem.run_bind, Result.andThen_ok, Instr.slice, g6, sizeT_sound hsz, Sem.run_pure]
              congr 2
              by_cases e1 : m' = l
              · rw [if_pos e1] at hoff ⊢; rw [hoff]
              · rw [if_neg e1] at hoff ⊢; rw [Option.map_some, hoff]
            · intro hex; rw [g5 hex]
            · have hm : (m' - l) * k + l * k = m' * k := by rw [← Nat.add_mul]; congr 1; omega
              have hm2 : m' * k ≤ c * k := Nat.mul_le_mul_right _ g4
              by_cases e2 : m = l
              · rw [if_pos e2]
                have : (m' - l) * k ≤ m' * k := Nat.mul_le_mul_right _ (by omega)
                omega
              · rw [if_neg e2]; omega
        · rw [if_pos hk] at h; cases h
  · cases h

theorem fieldAddr_sound {s : TypeId} {x : AVal} {cx : Value} {f : Nat} {v : AVal} (h : fieldAddrA P s x f = some v) (hx : VR E.ρ β x cx) : Says P E β (Instr.fieldAt s cx f) v := by
  unfold fieldAddrA und at h
  split at h
  · rename_i fields b off hu
    cases hx with | @ptr _ _ L hL =>
    split at h
    · rename_i fd hfd
      split at h
      · rename_i k hk
        simp only [Option.some.injEq] at h; subst h
        refine ⟨.pointer (some ⟨L.blk, L.sh + (off + fd.offset), none⟩), fun w => ?_, .ptr hL⟩
        simp [Instr.fieldAt, run_underlying hu, hfd, Instr.sureAddr, fieldPlace, sizeT_sound hk, Addr.add_lit, Nat.add_assoc]
      · cases h
    · cases h
  · cases h

theorem indexAddr_sound {t : TypeId} {x i : AVal} {cx ci : Value} {v : AVal} (h : indexAddrA P t x i = some v) (hx : VR E.ρ β x cx) (hi : VR E.ρ β i ci) : Says P E β (Instr.indexAt t cx ci) v := by
  unfold indexAddrA und at h
  split at h
  · rename_i len e b off k n hu
    cases hx with | @ptr _ _ L hL =>
    cases hi
    split at h
    · rename_i size hsz
      cases hb : (decide (0 ≤ n) && decide (n < (len : Int))) with
      | false => rw [hb] at h; cases h
      | true =>
        rw [hb, cond_true] at h; simp only [Option.some.injEq] at h; subst h
        simp only [Bool.and_eq_true, decide_eq_true_eq] at hb
        refine ⟨.pointer (some ⟨L.blk, L.sh + (off + n.toNat * size), none⟩), fun w => ?_, .ptr hL⟩
        simp [Instr.indexAt, asIntOf, run_underlying hu, Instr.sureAddr, hb.1, hb.2, sizeT_sound hsz, Addr.add_lit, Nat.add_assoc]
    · cases h
  · rename_i e b off len cap ex sz k n hu
    cases hx with | @slice _ _ _ _ _ c _ L hL hs hl hc he hz =>
    cases hi
    split at h
    · rename_i size hsz
      cases hb : (decide (0 ≤ n) && decide (n < (len : Int)) && Nat.beq size sz) with
      | false => rw [hb] at h; cases h
      | true =>
        rw [hb, cond_true] at h; simp only [Option.some.injEq] at h; subst h
        simp only [Bool.and_eq_true, decide_eq_true_eq] at hb
        refine ⟨.pointer (some ⟨L.blk, L.sh + (off + n.toNat * size), none⟩), fun w => ?_, .ptr hL⟩
        simp [Instr.indexAt, asIntOf, run_underlying hu, hb.1.1, hb.1.2, sizeT_sound hsz, Addr.add_lit, Nat.add_assoc]
    · cases h
  · cases h

theorem index_sound {t : TypeId} {x i : AVal} {cx ci : Value} {v : AVal} (h : indexA P t x i = some v) (hx : VR E.ρ β x cx) (hi : VR E.ρ β i ci) : Says P E β (Instr.index t cx ci) v := by
  unfold indexA und at h
  split at h
  · rename_i len e cs k n hu
    cases hx with | @agg _ vs hr h1 =>
    cases hi
    split at h
    · rename_i size hsz
      cases hb : (decide (0 ≤ n) && decide (n < (len : Int))) with
      | false => rw [hb] at h; cases h
      | true =>
        rw [hb, cond_true] at h
        simp only [Bool.and_eq_true, decide_eq_true_eq] at hb
        obtain ⟨cv, hcv, hv⟩ := partA_sound h hr h1
        exact ⟨cv, fun w => by simp [Instr.index, asIntOf, run_underlying hu, hb.1, hb.2, sizeT_sound hsz, hcv], hv⟩
    · cases h
  · rename_i len a k n hu
    cases hx with | @str _ _ s h1 h2 =>
    cases hi
    cases hb : (decide (0 ≤ n) && decide (n < (len : Int))) with
    | false => rw [hb] at h; cases h
    | true =>
      rw [hb, cond_true] at h; simp only [Option.some.injEq] at h; subst h
      simp only [Bool.and_eq_true, decide_eq_true_eq] at hb
      have hlt : n.toNat < len := by omega
      have hg : s[n.toNat]? = some (UInt8.ofNat (byteAt a n.toNat)) := by
        have h3 := decode_get len a n.toNat hlt
        rw [← h1] at h3
        have hsz := size_of_data h1
        rw [getElem?_pos s n.toNat (by omega)]
        rw [Array.getElem?_toList] at h3
        rw [getElem?_pos s.data n.toNat (by show n.toNat < s.size; omega)] at h3
        exact h3
      refine ⟨.int .u8 (Int.ofNat (byteAt a n.toNat)), fun w => ?_, .int _ _⟩
      have hb8 : (UInt8.ofNat (byteAt a n.toNat)).toNat = byteAt a n.toNat := by
        rw [UInt8.toNat_ofNat']; exact Nat.mod_eq_of_lt (Nat.mod_lt _ (by omega))
      simp only [Instr.index, asIntOf, run_underlying hu, Sem.run_bind, Sem.run_pure, Result.andThen_ok, if_pos hb.1, hg, hb8]
      rfl
  · cases h

theorem assert_sound {x : AVal} {cx : Value} {xt asserted : TypeId} {ok : Bool} {v : AVal} (h : assertA P x asserted ok = some v) (hx : VR E.ρ β x cx) : Says P E β (Instr.typeAssert cx xt asserted ok) v := by
  have hfail : ∀ {v : AVal} {s d : Option TypeId} {m : String}, (if ok = true then (zeroT P asserted).map fun z => AVal.tuple [z, .bool false] else none) = some v →
      Says P E β (if ok = true then do Pure.pure (.tuple #[← zeroValue asserted, .bool false]) else runtimePanic (.typeAssertion s d asserted m)) v := by
    intro v s d m h
    cases ok with
    | false => cases h
    | true =>
      rw [if_pos rfl] at h
      cases hz : zeroT P asserted with
      | none => rw [hz] at h; cases h
      | some z =>
        rw [hz] at h; simp only [Option.map_some, Option.some.injEq] at h; subst h
        obtain ⟨cz, _, hr, hv⟩ := zeroT_sound (E := E) (β := β) hz
        exact ⟨.tuple #[cz, .bool false], fun w => by simp [hr], .tuple (.cons hv (.cons (.bool _) .nil))⟩
  have hhold : ∀ {y : AVal} {cy : Value}, VR E.ρ β y cy → Says P E β (Pure.pure (if ok = true then .tuple #[cy, .bool true] else cy)) (if ok = true then .tuple [y, .bool true] else y) := by
    intro y cy hy
    cases ok with
    | false => exact Says.pure hy
    | true => exact Says.pure (.tuple (.cons hy (.cons (.bool _) .nil)))
  unfold assertA und at h
  simp only at h
  split at h
  · rename_i ms hu; cases hx
    obtain ⟨cv, hr, hv⟩ := hfail (s := none) (d := none) (m := "") h
    exact ⟨cv, fun w => by have := hr w; simp only [Instr.typeAssert, run_underlying hu, Sem.run_bind, Result.andThen_ok]; exact this, hv⟩
  · rename_i want t y hu; cases hx
    rename_i cy hy
    split at h
    · rename_i i hi
      split at h
      · rename_i hm
        simp only [Option.some.injEq] at h; subst h
        obtain ⟨cv, hr, hv⟩ := hhold (VR.iface (t := t) hy)
        exact ⟨cv, fun w => by have := hr w; simp only [Instr.typeAssert, run_underlying hu, Sem.run_bind, Result.andThen_ok, typeInfo, run_program, hi, Sem.run_pure, hm]; exact this, hv⟩
      · rename_i m hm
        obtain ⟨cv, hr, hv⟩ := hfail (s := none) (d := some t) (m := m) h
        exact ⟨cv, fun w => by have := hr w; simp only [Instr.typeAssert, run_underlying hu, Sem.run_bind, Result.andThen_ok, typeInfo, run_program, hi, Sem.run_pure, hm]; exact this, hv⟩
    · cases h
  · rename_i td hnot hu; cases hx
    obtain ⟨cv, hr, hv⟩ := hfail (s := some xt) (d := none) (m := "") h
    exact ⟨cv, fun w => by
      have := hr w
      simp only [Instr.typeAssert, run_underlying hu, Sem.run_bind, Result.andThen_ok]
      cases td <;> first | exact this | exact absurd rfl (hnot _), hv⟩
  · rename_i td t y hnot hu; cases hx
    rename_i cy hy
    cases ht : Nat.beq t asserted with
    | true =>
      rw [ht, cond_true] at h; simp only [Option.some.injEq] at h; subst h
      have := Nat.eq_of_beq_eq_true ht; subst this
      obtain ⟨cv, hr, hv⟩ := hhold hy
      exact ⟨cv, fun w => by
        have := hr w
        simp only [Instr.typeAssert, run_underlying hu, Sem.run_bind, Result.andThen_ok]
        cases td <;> first | (simp only [if_true]; exact this) | exact absurd rfl (hnot _), hv⟩
    | false =>
      rw [ht, cond_false] at h
      have hne : t ≠ asserted := fun e => by subst e; rw [Nat.beq_refl] at ht; cases ht
      obtain ⟨cv, hr, hv⟩ := hfail (s := some xt) (d := some t) (m := "") h
      exact ⟨cv, fun w => by
        have := hr w
        simp only [Instr.typeAssert, run_underlying hu, Sem.run_bind, Result.andThen_ok]
        cases td <;> first | (simp only [if_neg hne]; exact this) | exact absurd rfl (hnot _), hv⟩
  · cases h
end
end Go.Ae
/- Operations that look at no memory: the one theorem. -/
set_option linter.unusedSimpArgs false
set_option linter.unusedVariables false
set_option maxHeartbeats 1000000
namespace Go.Ae
open Go

section
variable {P : Program} {E : Env} {β : Beta} {n : Nat} {fr : T AVal} {a : Act}

theorem min_sound (mx : Bool) : ∀ (l : List AVal) (x : AVal) (cl : List Value) (cx : Value) (v : AVal), minA mx x l = some v → VR E.ρ β x cx → VRs E.ρ β l cl →
    Says P E β (cl.foldlM (if mx then Builtin.max2 else Builtin.min2) cx) v
  | [], x, cl, cx, v, h, hx, hl => by
    cases hl
    have : x = v := by cases x <;> simpa [minA] using h
    subst this
    exact Says.pure hx
  | y :: l, x, cl, cx, v, h, hx, hl => by
    cases hl with | @cons _ _ cy cl hy hl =>
    cases x <;> cases y <;> simp only [minA] at h <;> first | (cases h; done) | skip
    cases hx; cases hy
    rename_i k p k' q
    obtain ⟨cv, hr, hv⟩ := min_sound mx l _ cl _ v h (.int k _) hl
    refine ⟨cv, fun w => ?_, hv⟩
    rw [← hr w]
    cases mx
    · simp only [List.foldlM_cons, Bool.false_eq_true, if_false, Builtin.min2, Sem.run_bind, Sem.run_pure, Result.andThen_ok, cond_false]
      congr 3
      by_cases hc : q < p <;> simp [hc]
    · simp only [List.foldlM_cons, if_true, Builtin.max2, Sem.run_bind, Sem.run_pure, Result.andThen_ok, cond_true]
      congr 3
      by_cases hc : q > p <;> simp [hc]

theorem pureBuiltin_sound {b : Builtin} {ts : Array TypeId} {ty : TypeId} {consts : Array Bool} {args : List AVal} {cargs : Array Value} {v : AVal} (h : pureBuiltin P b ts.toList args = some v)
    (hr : VRs E.ρ β args cargs.toList) : ∃ cv, (∀ w, (builtin b ts ty consts cargs).run P w = .ok (.value cv) w) ∧ VR E.ρ β v cv := by
  obtain ⟨tsl⟩ := ts
  obtain ⟨cl⟩ := cargs
  simp only at h hr
  unfold pureBuiltin und at h
  split at h
  · -- len
    rename_i t ts x l
    cases hr with | @cons _ _ cx cl hx hl =>
    split at h
    · rename_i k c hu; cases hx with | @str _ _ s h1 h2 =>
      simp only [Option.some.injEq] at h; subst h
      exact ⟨_, fun w => by simp [builtin, Builtin.len_, run_underlying hu, goInt, size_of_data h1], .int _ _⟩
    · rename_i k e hu; simp only [Option.some.injEq] at h; subst h
      exact ⟨_, fun w => by simp [builtin, Builtin.len_, run_underlying hu, goInt], .int _ _⟩
    · rename_i hu; cases hx; simp only [Option.some.injEq] at h; subst h
      exact ⟨_, fun w => by simp [builtin, Builtin.len_, run_underlying hu, goInt], .int _ _⟩
    · rename_i hu; cases hx; simp only [Option.some.injEq] at h; subst h
      exact ⟨_, fun w => by simp [builtin, Builtin.len_, run_underlying hu, goInt], .int _ _⟩
    · rename_i hu; cases hx; simp only [Option.some.injEq] at h; subst h
      exact ⟨_, fun w => by simp [builtin, Builtin.len_, run_underlying hu, goInt], .int _ _⟩
    · cases h
  · rename_i t ts x l
    cases hr with | @cons _ _ cx cl hx hl =>
    split at h
    · rename_i hu
      cases hx with | slice h0 hs hl' hc he hz =>
      simp only [Option.some.injEq] at h; subst h
      rw [he rfl]
      exact ⟨_, fun w => by simp [builtin, Builtin.cap_, run_underlying hu, goInt], .int _ _⟩
    · rename_i hu; cases hx; simp only [Option.some.injEq] at h; subst h
      exact ⟨_, fun w => by simp [builtin, Builtin.cap_, run_underlying hu, goInt], .int _ _⟩
    · cases h
  · rename_i x l
    cases hr with | @cons _ _ cx cl hx hl =>
    obtain ⟨cv, hr, hv⟩ := min_sound (P := P) false l x cl cx v h hx hl
    exact ⟨cv, fun w => by have := hr w; simp only [Bool.false_eq_true, if_false] at this; simp [builtin, Builtin.min_, this], hv⟩
  · rename_i x l
    cases hr with | @cons _ _ cx cl hx hl =>
    obtain ⟨cv, hr, hv⟩ := min_sound (P := P) true l x cl cx v h hx hl
    exact ⟨cv, fun w => by have := hr w; simp only [if_true] at this; simp [builtin, Builtin.max_, this], hv⟩
  · cases hr with | @cons _ _ cx cl hx hl =>
    cases hl; cases hx; simp only [Option.some.injEq] at h; subst h
    exact ⟨.pointer none, fun w => by show ((builtin .unsafeSliceData _ _ _ #[.slice none 0 0]).run P w) = _; simp only [builtin, Sem.run_bind, Lib.run_unsafeSliceData_nil, Result.andThen_ok]; rfl, .nilptr⟩
  · cases hr with | @cons _ _ cx cl hx hl =>
    cases hl
    cases hx with | slice h0 hs hl' hc he hz =>
    simp only [Option.some.injEq] at h; subst h
    rename_i c L
    have hc0 : c ≠ 0 := by omega
    exact ⟨_, fun w => by show ((builtin .unsafeSliceData _ _ _ #[.slice (some _) _ c]).run P w) = _; simp only [builtin, Sem.run_bind, Lib.run_unsafeSliceData_row (hc := hc0), Result.andThen_ok]; rfl, .ptr h0⟩
  · cases h

theorem opt_sound (hf : FrR E β n fr a) {x : Option Operand} {r : Option AVal} (h : optA fr x = some r) : OptR E β r (x.map a.eval) := by
  cases x with
  | none => simp only [optA, Option.some.injEq] at h; subst h; exact .none
  | some y =>
    simp only [optA] at h
    cases hy : opdA fr y with
    | none => rw [hy] at h; cases h
    | some v => rw [hy] at h; simp only [Option.map_some, Option.some.injEq] at h; subst h; exact .some (opdA_sound hf hy)

theorem Says.op {s : Sem Value} {v : AVal} (h : Says P E β s v) : ∃ cv, (∀ w, (do Pure.pure (Next.value (← s)) : Sem Next).run P w = .ok (.value cv) w) ∧ VR E.ρ β v cv :=
  let ⟨cv, hr, hv⟩ := h
  ⟨cv, fun w => by simp [hr], hv⟩

theorem build_sound {t : TypeId} {parts : Array (Nat × Operand)} {v : AVal} (hf : FrR E β n fr a) (h : buildA P fr t parts.toList = some v) : Says P E β (Instr.build t (parts.map fun (i, x) => (i, a.eval x))) v := by
  unfold buildA at h
  split at h
  · rename_i z ps hz hp
    cases ht : z.isTuple with
    | true => rw [ht] at h; cases h
    | false =>
      rw [ht, cond_false] at h
      obtain ⟨cz, ⟨i, hi, hiz⟩, _, hv⟩ := zeroT_sound (E := E) (β := β) hz
      have hps := partsA_sound hf hp
      have hpl : (parts.map fun (i, x) => (i, a.eval x)).toList = parts.toList.map fun (i, x) => (i, a.eval x) := by simp
      obtain ⟨hc, hone⟩ := hv.cells ht
      unfold und at h
      split at h
      · rename_i fields hu
        split at h
        · rename_i places hpl2
          unfold placesT at hpl2
          cases ho : fillP (places[·]?) ps z.cells with
          | none => rw [ho] at h; cases h
          | some out =>
            rw [ho] at h; simp only [Option.map_some, Option.some.injEq] at h; subst h
            obtain ⟨cout, h1, h2, h3, _⟩ := fillP_sound ho hps hc hone
            refine ⟨.agg cout, fun w => run_build w t _ cout ?_, .agg h2 h3⟩
            simp only [Program.built, hi, hu, hiz, hpl2, hpl]
            rw [← h1]; congr 1; funext k; simp
        · cases h
      · rename_i k e hu
        split at h
        · rename_i size hs
          cases ho : fillP (fun i => some (i * size, size)) ps z.cells with
          | none => rw [ho] at h; cases h
          | some out =>
            rw [ho] at h; simp only [Option.map_some, Option.some.injEq] at h; subst h
            obtain ⟨cout, h1, h2, h3, _⟩ := fillP_sound ho hps hc hone
            unfold sizeT at hs
            cases hie : P.info? e with
            | none => rw [hie] at hs; cases hs
            | some ie =>
              rw [hie] at hs; simp only [Option.map_some, Option.some.injEq] at hs; subst hs
              refine ⟨.agg cout, fun w => run_build w t _ cout ?_, .agg h2 h3⟩
              simp only [Program.built, hi, hu, hiz, hie, hpl]
              exact h1
        · cases h
      · cases h
  · cases h

theorem pure_sound {o : Oper} {v : AVal} (h : pureOp P fr o = some v) (hf : FrR E β n fr a) : ∃ cv, (∀ w, (execOp a.eval o).run P w = .ok (.value cv) w) ∧ VR E.ρ β v cv := by
  unfold pureOp at h
  split at h <;> rename_i ho
  · exact ⟨_, fun w => by simp only [execOp, ho]; rfl, opdA_sound hf h⟩
  · exact ⟨_, fun w => by simp only [execOp, ho]; rfl, opdA_sound hf h⟩
  · split at h
    · rename_i hc
      have hv := opdA_sound hf hc
      generalize hcv : a.eval _ = cv at hv
      cases hv
      exact ⟨_, fun w => by simp only [execOp, ho, hcv, asBool, Sem.run_bind, Sem.run_pure, Result.andThen_ok]; rfl, opdA_sound hf h⟩
    · rename_i hc
      have hv := opdA_sound hf hc
      generalize hcv : a.eval _ = cv at hv
      cases hv
      exact ⟨_, fun w => by simp only [execOp, ho, hcv, asBool, Sem.run_bind, Sem.run_pure, Result.andThen_ok]; rfl, opdA_sound hf h⟩
    · cases h
  · obtain ⟨cv, hr, hv⟩ := (build_sound hf h).op
    exact ⟨cv, fun w => by simp only [execOp, ho]; exact hr w, hv⟩
  · -- nilCheck
    rename_i x
    split at h
    · rename_i hc
      have hv := opdA_sound hf hc
      simp only [Option.some.injEq] at h; subst h
      refine ⟨_, fun w => ?_, hv⟩
      simp only [execOp, ho]
      generalize a.eval x = cv at hv
      cases hv; rfl
    · rename_i hc
      have hv := opdA_sound hf hc
      simp only [Option.some.injEq] at h; subst h
      refine ⟨_, fun w => ?_, hv⟩
      simp only [execOp, ho]
      generalize a.eval x = cv at hv
      cases hv; rfl
    · rename_i hc
      have hv := opdA_sound hf hc
      simp only [Option.some.injEq] at h; subst h
      refine ⟨_, fun w => ?_, hv⟩
      simp only [execOp, ho]
      generalize a.eval x = cv at hv
      cases hv; rfl
    · rename_i hc
      have hv := opdA_sound hf hc
      simp only [Option.some.injEq] at h; subst h
      refine ⟨_, fun w => ?_, hv⟩
      simp only [execOp, ho]
      generalize a.eval x = cv at hv
      cases hv; rfl
    · cases h
  · split at h
    · rename_i hx hy
      obtain ⟨cv, hr, hv⟩ := (bin_sound h (opdA_sound hf hx) (opdA_sound hf hy)).op
      exact ⟨cv, fun w => by simp only [execOp, ho]; exact hr w, hv⟩
    · cases h
  · split at h
    · rename_i hx
      obtain ⟨cv, hr, hv⟩ := (un_sound (P := P) h (opdA_sound hf hx)).op
      exact ⟨cv, fun w => by simp only [execOp, ho]; exact hr w, hv⟩
    · cases h
  · split at h
    · rename_i hx
      obtain ⟨cv, hr, hv⟩ := (convP_sound (P := P) h (opdA_sound hf hx)).op
      exact ⟨cv, fun w => by simp only [execOp, ho]; exact hr w, hv⟩
    · cases h
  · -- makeInterface
    rename_i t x
    cases hu : P.underlying t with
    | none => simp [und, hu] at h
    | some td =>
      cases hx : opdA fr x with
      | none => cases td <;> simp [und, hu, hx] at h
      | some y =>
        have hv := opdA_sound hf hx
        cases td <;> simp [und, hu, hx] at h <;> subst h <;>
          exact ⟨_, fun w => by simp [execOp, ho, Instr.makeInterface, run_underlying hu], .iface hv⟩
  · split at h
    · rename_i h1 h2
      simp only [Option.some.injEq] at h; subst h
      refine ⟨_, fun w => by simp only [execOp, ho, Instr.makeFunc]; rfl, .func ?_ ?_⟩
      · simpa using opdsA_sound hf h1
      · simpa using opdsA_sound hf h2
    · cases h
  · split at h
    · rename_i h1 h2 h3 h4
      obtain ⟨cv, hr, hv⟩ := (slice_sound (P := P) h (opdA_sound hf h1) (opt_sound hf h2) (opt_sound hf h3) (opt_sound hf h4)).op
      exact ⟨cv, fun w => by simp only [execOp, ho]; exact hr w, hv⟩
    · cases h
  · split at h
    · rename_i hx
      obtain ⟨cv, hr, hv⟩ := (fieldAddr_sound (P := P) h (opdA_sound hf hx)).op
      exact ⟨cv, fun w => by simp only [execOp, ho]; exact hr w, hv⟩
    · cases h
  · -- field
    rename_i t x f
    unfold und at h
    split at h
    · rename_i fields cs hu hx
      split at h
      · rename_i fd hfd
        have hv := opdA_sound hf hx
        generalize hcx : a.eval x = cx at hv
        cases hv with | @agg _ vs hr h1 =>
        obtain ⟨cv, hcv, hv⟩ := partA_sound h hr h1
        exact ⟨cv, fun w => by simp [execOp, ho, hcx, Instr.field, run_underlying hu, hfd, asAgg, hcv], hv⟩
      · cases h
    · cases h
  · split at h
    · rename_i hx hy
      obtain ⟨cv, hr, hv⟩ := (indexAddr_sound (P := P) h (opdA_sound hf hx) (opdA_sound hf hy)).op
      exact ⟨cv, fun w => by simp only [execOp, ho]; exact hr w, hv⟩
    · cases h
  · split at h
    · rename_i hx hy
      obtain ⟨cv, hr, hv⟩ := (index_sound (P := P) h (opdA_sound hf hx) (opdA_sound hf hy)).op
      exact ⟨cv, fun w => by simp only [execOp, ho]; exact hr w, hv⟩
    · cases h
  · split at h
    · rename_i hx
      obtain ⟨cv, hr, hv⟩ := (assert_sound (P := P) h (opdA_sound hf hx)).op
      exact ⟨cv, fun w => by simp only [execOp, ho]; exact hr w, hv⟩
    · cases h
  · -- extract
    rename_i x i
    split at h
    · rename_i vs hx
      have hv := opdA_sound hf hx
      generalize hcx : a.eval x = cx at hv
      cases hv with | @tuple _ ws hr =>
      obtain ⟨cv, hcv, hv⟩ := hr.get h
      have hcv' : ws[i]? = some cv := by simpa using hcv
      exact ⟨cv, fun w => by simp [execOp, ho, hcx, Instr.extract, hcv'], hv⟩
    · cases h
  · -- builtin
    rename_i c
    split at h
    · rename_i b hcb
      split at h
      · rename_i args hargs
        have hr := opdsA_sound hf hargs
        obtain ⟨cv, hcv, hv⟩ := pureBuiltin_sound (P := P) (ts := c.argTypes) (ty := o.type) (consts := c.args.map fun | .const _ => true | _ => false) (cargs := c.args.map a.eval) h (by simpa using hr)
        exact ⟨cv, fun w => by simp only [execOp, ho, resolve, hcb, Sem.run_bind, Sem.run_pure, Result.andThen_ok, invoke]; exact hcv w, hv⟩
      · cases h
    · cases h
  · cases h
end
end Go.Ae
