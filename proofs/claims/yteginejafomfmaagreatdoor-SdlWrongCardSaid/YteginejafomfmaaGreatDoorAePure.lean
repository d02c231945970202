/- Operations that look at no memory: the model's answer is the evaluator's. -/
import Derived.Test.YteginejafomfmaaGreatDoorAeMem
import Derived.Laws.StructEq
import Derived.Laws.Entries
set_option linter.unusedSimpArgs false
set_option linter.unusedVariables false
namespace Go.Ae
open Go

section
variable {P : Program} {E : Env} {β : Beta}

theorem isCell_eq (v : Value) : isCell v = v.oneCell' := by cases v <;> rfl

mutual
theorem ofConst_sound : ∀ (k : Nat) (v : Value) (x : AVal), ofConst k v = some x → VR E.ρ β x v
  | 0, v, x, h => by simp [ofConst] at h
  | k + 1, .bool b, x, h => by simp only [ofConst, Option.some.injEq] at h; subst h; exact .bool b
  | k + 1, .int i n, x, h => by simp only [ofConst, Option.some.injEq] at h; subst h; exact .int i n
  | k + 1, .string s, x, h => by
    simp only [ofConst, Option.some.injEq] at h; subst h
    have e : s.size = s.data.toList.length := by rw [Array.length_toList]; rfl
    exact .str (by rw [e, decode_codeOf]) (by rw [e]; exact codeOf_lt _)
  | k + 1, .pointer none, x, h => by simp only [ofConst, Option.some.injEq] at h; subst h; exact .nilptr
  | k + 1, .slice none 0 0, x, h => by simp only [ofConst, Option.some.injEq] at h; subst h; exact .nilslice
  | k + 1, .map none, x, h => by simp only [ofConst, Option.some.injEq] at h; subst h; exact .nilmap
  | k + 1, .nilFunc, x, h => by simp only [ofConst, Option.some.injEq] at h; subst h; exact .nilfunc
  | k + 1, .nilIface, x, h => by simp only [ofConst, Option.some.injEq] at h; subst h; exact .niliface
  | k + 1, .agg cs, x, h => by
    simp only [ofConst] at h
    cases hc : cs.toList.all isCell with
    | false => rw [hc, cond_false] at h; cases h
    | true =>
      rw [hc, cond_true] at h
      cases hl : ofConsts k cs.toList with
      | none => rw [hl] at h; cases h
      | some l =>
        rw [hl] at h; simp only [Option.map_some, Option.some.injEq] at h; subst h
        exact .agg (ofConsts_sound k _ _ hl) fun v hv => by rw [← isCell_eq]; exact List.all_eq_true.1 hc v hv
  | k + 1, .tuple cs, x, h => by
    simp only [ofConst] at h
    cases hl : ofConsts k cs.toList with
    | none => rw [hl] at h; cases h
    | some l =>
      rw [hl] at h; simp only [Option.map_some, Option.some.injEq] at h; subst h
      exact .tuple (ofConsts_sound k _ _ hl)
  | k + 1, .iface t v, x, h => by
    simp only [ofConst] at h
    cases hl : ofConst k v with
    | none => rw [hl] at h; cases h
    | some l =>
      rw [hl] at h; simp only [Option.map_some, Option.some.injEq] at h; subst h
      exact .iface (ofConst_sound k _ _ hl)
  | k + 1, .pointer (some a), x, h => by simp [ofConst] at h
  | k + 1, .slice (some a) n c, x, h => by simp [ofConst] at h
  | k + 1, .slice none (n + 1) c, x, h => by simp [ofConst] at h
  | k + 1, .slice none 0 (c + 1), x, h => by simp [ofConst] at h
  | k + 1, .map (some r), x, h => by simp [ofConst] at h
  | k + 1, .float .., x, h | k + 1, .complex .., x, h | k + 1, .chan .., x, h | k + 1, .func .., x, h => by simp [ofConst] at h
theorem ofConsts_sound : ∀ (k : Nat) (v : List Value) (x : List AVal), ofConsts k v = some x → VRs E.ρ β x v
  | 0, v, x, h => by simp [ofConsts] at h
  | k + 1, [], x, h => by simp only [ofConsts, Option.some.injEq] at h; subst h; exact .nil
  | k + 1, v :: l, x, h => by
    simp only [ofConsts, Option.bind_eq_bind, Option.pure_def] at h
    cases h1 : ofConst k v with
    | none => rw [h1] at h; cases h
    | some y =>
      cases h2 : ofConsts k l with
      | none => rw [h1, h2] at h; cases h
      | some ys =>
        rw [h1, h2] at h; simp only [Option.bind_some, Option.some.injEq] at h; subst h
        exact .cons (ofConst_sound k v y h1) (ofConsts_sound k l ys h2)
end

variable {n : Nat} {fr : T AVal} {a : Act}
theorem opdA_sound (hf : FrR E β n fr a) {x : Operand} {v : AVal} (h : opdA fr x = some v) : VR E.ρ β v (a.eval x) := by
  cases x with
  | tmp t => simp only [opdA, Option.some.injEq] at h; subst h; exact hf.val t
  | const c => exact ofConst_sound _ _ _ h
  | global g => simp only [opdA, Option.some.injEq] at h; subst h; exact .gptr g 0
  | func f => simp only [opdA, Option.some.injEq] at h; subst h; exact .func .nil .nil
theorem opdsA_sound (hf : FrR E β n fr a) : ∀ {l : List Operand} {vs : List AVal}, opdsA fr l = some vs → VRs E.ρ β vs (l.map a.eval)
  | [], vs, h => by simp only [opdsA, Option.some.injEq] at h; subst h; exact .nil
  | x :: l, vs, h => by
    simp only [opdsA, Option.bind_eq_bind, Option.pure_def] at h
    cases h1 : opdA fr x with
    | none => rw [h1] at h; cases h
    | some y =>
      cases h2 : opdsA fr l with
      | none => rw [h1, h2] at h; cases h
      | some ys =>
        rw [h1, h2] at h; simp only [Option.bind_some, Option.some.injEq] at h; subst h
        exact .cons (opdA_sound hf h1) (opdsA_sound hf h2)
/-- Parts of a literal. -/
inductive PartsR (E : Env) (β : Beta) : List (Nat × AVal) → List (Nat × Value) → Prop where
  | nil : PartsR E β [] []
  | cons {i : Nat} {x : AVal} {v : Value} {xs : List (Nat × AVal)} {vs : List (Nat × Value)} (h : VR E.ρ β x v) (hs : PartsR E β xs vs) : PartsR E β ((i, x) :: xs) ((i, v) :: vs)
theorem partsA_sound (hf : FrR E β n fr a) : ∀ {l : List (Nat × Operand)} {vs : List (Nat × AVal)}, partsA fr l = some vs → PartsR E β vs (l.map fun (i, x) => (i, a.eval x))
  | [], vs, h => by simp only [partsA, Option.some.injEq] at h; subst h; exact .nil
  | (i, x) :: l, vs, h => by
    simp only [partsA, Option.bind_eq_bind, Option.pure_def] at h
    cases h1 : opdA fr x with
    | none => rw [h1] at h; cases h
    | some y =>
      cases h2 : partsA fr l with
      | none => rw [h1, h2] at h; cases h
      | some ys =>
        rw [h1, h2] at h; simp only [Option.bind_some, Option.some.injEq] at h; subst h
        exact .cons (opdA_sound hf h1) (partsA_sound hf h2)

/-! Types. -/
theorem sizeT_sound {t : TypeId} {k : Nat} (h : sizeT P t = some k) (w : World) : (sizeOf t).run P w = .ok k w := by
  unfold sizeT at h
  cases hi : P.info? t with
  | none => rw [hi] at h; cases h
  | some i => rw [hi] at h; simp only [Option.map_some, Option.some.injEq] at h; subst h; simp [sizeOf, typeInfo, hi]
theorem aggT_sound {t : TypeId} {b : Bool} (h : aggT P t = some b) (w : World) : (isAgg t).run P w = .ok b w := by
  unfold aggT und at h
  cases hu : P.underlying t with
  | none => rw [hu] at h; cases h
  | some d => rw [hu] at h; cases d <;> simp at h <;> subst h <;> simp [isAgg, run_underlying hu]
theorem zeroT_sound {t : TypeId} {z : AVal} (h : zeroT P t = some z) : ∃ cz, (∃ i, P.info? t = some i ∧ i.zero = some cz) ∧ (∀ w, (zeroValue t).run P w = .ok cz w) ∧ VR E.ρ β z cz := by
  unfold zeroT at h
  cases hi : P.info? t with
  | none => rw [hi] at h; cases h
  | some i =>
    rw [hi] at h
    simp only [Option.bind_some] at h
    cases hz : i.zero with
    | none => rw [hz] at h; cases h
    | some cz =>
      rw [hz] at h
      exact ⟨cz, ⟨i, rfl, hz⟩, fun w => by simp [zeroValue, typeInfo, hi, hz], ofConst_sound _ _ _ h⟩

theorem VR.cells {x : AVal} {v : Value} (h : VR E.ρ β x v) (ht : x.isTuple = false) : VRs E.ρ β x.cells v.cells.toList ∧ ∀ u ∈ v.cells.toList, u.oneCell' = true := by
  cases h with
  | agg h h1 => exact ⟨h, h1⟩
  | tuple h => cases ht
  | opq i h hb =>
    have hc : (E.ρ i).cells = #[E.ρ i] := by cases hv : E.ρ i <;> first | rfl | (rw [hv] at h; cases h)
    rw [hc]
    exact ⟨.cons (.opq i h hb) .nil, fun u hu => by simp at hu; subst hu; exact h⟩
  | str h hc => exact ⟨.cons (.str h hc) .nil, fun u hu => by simp [Value.cells] at hu; subst hu; rfl⟩
  | bool b => exact ⟨.cons (.bool b) .nil, fun u hu => by simp [Value.cells] at hu; subst hu; rfl⟩
  | int k m => exact ⟨.cons (.int k m) .nil, fun u hu => by simp [Value.cells] at hu; subst hu; rfl⟩
  | ptr h => exact ⟨.cons (.ptr h) .nil, fun u hu => by simp [Value.cells] at hu; subst hu; rfl⟩
  | gptr g o => exact ⟨.cons (.gptr g o) .nil, fun u hu => by simp [Value.cells] at hu; subst hu; rfl⟩
  | nilptr => exact ⟨.cons .nilptr .nil, fun u hu => by simp [Value.cells] at hu; subst hu; rfl⟩
  | slice h hs hl hc he hz => exact ⟨.cons (.slice h hs hl hc he hz) .nil, fun u hu => by simp [Value.cells] at hu; subst hu; rfl⟩
  | nilslice => exact ⟨.cons .nilslice .nil, fun u hu => by simp [Value.cells] at hu; subst hu; rfl⟩
  | map h => exact ⟨.cons (.map h) .nil, fun u hu => by simp [Value.cells] at hu; subst hu; rfl⟩
  | nilmap => exact ⟨.cons .nilmap .nil, fun u hu => by simp [Value.cells] at hu; subst hu; rfl⟩
  | func h1 h2 => exact ⟨.cons (.func h1 h2) .nil, fun u hu => by simp [Value.cells] at hu; subst hu; rfl⟩
  | nilfunc => exact ⟨.cons .nilfunc .nil, fun u hu => by simp [Value.cells] at hu; subst hu; rfl⟩
  | iface h => exact ⟨.cons (.iface h) .nil, fun u hu => by simp [Value.cells] at hu; subst hu; rfl⟩
  | niliface => exact ⟨.cons .niliface .nil, fun u hu => by simp [Value.cells] at hu; subst hu; rfl⟩

/-- A part of an aggregate. -/
theorem partA_sound {t : TypeId} {cs : List AVal} {vs : Array Value} {off : Nat} {v : AVal} (h : partA P t cs off = some v) (hr : VRs E.ρ β cs vs.toList) (h1 : ∀ u ∈ vs.toList, u.oneCell' = true) :
    ∃ cv, (∀ w, (part t vs off).run P w = .ok cv w) ∧ VR E.ρ β v cv := by
  unfold partA at h
  cases ha : aggT P t with
  | none => rw [ha] at h; cases h
  | some b =>
    rw [ha] at h
    cases b with
    | true =>
      cases hs : sizeT P t with
      | none => rw [hs] at h; cases h
      | some k =>
        rw [hs] at h; simp only [Option.some.injEq] at h; subst h
        refine ⟨.agg (vs.extract off (off + k)), fun w => by simp [part, aggT_sound ha, sizeT_sound hs], .agg ?_ ?_⟩
        · rw [Array.toList_extract]
          simpa [List.extract] using (hr.drop off).take k
        · intro u hu
          rw [Array.toList_extract] at hu
          exact h1 u (List.mem_of_mem_drop (List.mem_of_mem_take hu))
    | false =>
      simp only at h
      obtain ⟨cv, hcv, hv⟩ := hr.get h
      have hcv' : vs[off]? = some cv := by simpa using hcv
      exact ⟨cv, fun w => by simp [part, aggT_sound ha, hcv'], hv⟩

/-! Literals. -/
theorem splice_length : ∀ (cs : List AVal) (off : Nat) (xs : List AVal), (splice cs off xs).length = cs.length
  | [], 0, [] => rfl
  | c :: cs, 0, [] => rfl
  | [], 0, x :: xs => rfl
  | [], off + 1, xs => rfl
  | _ :: cs, 0, x :: xs => by simp [splice, splice_length cs 0 xs]
  | c :: cs, off + 1, xs => by simp [splice, splice_length cs off xs]
theorem splice_get : ∀ (cs : List AVal) (off : Nat) (xs : List AVal) (i : Nat), off + xs.length ≤ cs.length → (splice cs off xs)[i]? = if off ≤ i ∧ i < off + xs.length then xs[i - off]? else cs[i]?
  | cs, 0, [], i, h => by cases cs <;> (simp only [splice]; rw [if_neg (by simp)])
  | [], 0, x :: xs, i, h => by simp at h
  | [], off + 1, xs, i, h => by simp at h
  | c :: cs, 0, x :: xs, i, h => by
    cases i with
    | zero => simp [splice]
    | succ i =>
      simp only [splice, List.getElem?_cons_succ]
      rw [splice_get cs 0 xs i (by simpa using h)]
      by_cases hi : i < xs.length
      · rw [if_pos (by omega), if_pos (by simp; omega)]; simp
      · rw [if_neg (by omega), if_neg (by simp; omega)]
  | c :: cs, off + 1, xs, i, h => by
    cases i with
    | zero => simp [splice]
    | succ i =>
      simp only [splice, List.getElem?_cons_succ]
      rw [splice_get cs off xs i (by simp at h; omega)]
      by_cases hi : off ≤ i ∧ i < off + xs.length
      · rw [if_pos hi, if_pos (by omega)]; congr 1; omega
      · rw [if_neg hi, if_neg (by omega)]

theorem setAll_size (off : Nat) : ∀ (xs : List Value) (k : Nat) (cs : Array Value), ((xs.zipIdx k).foldl (fun cs (c, j) => cs.setIfInBounds (off + j) c) cs).size = cs.size
  | [], k, cs => rfl
  | x :: xs, k, cs => by simp only [List.zipIdx_cons, List.foldl_cons]; rw [setAll_size off xs]; simp
theorem setAll_get (off : Nat) : ∀ (xs : List Value) (k : Nat) (cs : Array Value) (i : Nat), off + k + xs.length ≤ cs.size →
    ((xs.zipIdx k).foldl (fun cs (c, j) => cs.setIfInBounds (off + j) c) cs)[i]? = if off + k ≤ i ∧ i < off + k + xs.length then xs[i - (off + k)]? else cs[i]?
  | [], k, cs, i, h => by simp only [List.zipIdx_nil, List.foldl_nil]; rw [if_neg (by simp)]
  | x :: xs, k, cs, i, h => by
    simp only [List.zipIdx_cons, List.foldl_cons]
    simp only [List.length_cons] at h
    rw [setAll_get off xs (k + 1) _ i (by simp; omega)]
    by_cases h0 : i = off + k
    · subst h0
      rw [if_neg (by omega), if_pos (by simp)]
      have : off + k < cs.size := by omega
      simp [this]
    · by_cases hi : off + (k + 1) ≤ i ∧ i < off + (k + 1) + xs.length
      · rw [if_pos hi, if_pos (by simp; omega)]
        have : i - (off + k) = (i - (off + (k + 1))) + 1 := by omega
        rw [this, List.getElem?_cons_succ]
      · rw [if_neg hi, if_neg (by simp; omega)]
        rw [Array.getElem?_setIfInBounds_ne (by omega)]

theorem fillP_sound {place : Nat → Option (Nat × Nat)} : ∀ {ps : List (Nat × AVal)} {vs : List (Nat × Value)} {cs out : List AVal} {cz : Array Value},
    fillP place ps cs = some out → PartsR E β ps vs → VRs E.ρ β cs cz.toList → (∀ u ∈ cz.toList, u.oneCell' = true) →
    ∃ cout, Instr.fill place cz vs = some cout ∧ VRs E.ρ β out cout.toList ∧ (∀ u ∈ cout.toList, u.oneCell' = true) ∧ cout.size = cz.size
  | [], vs, cs, out, cz, h, hp, hr, h1 => by
    cases hp
    simp only [fillP, Option.some.injEq] at h; subst h
    exact ⟨cz, rfl, hr, h1, rfl⟩
  | (i, x) :: ps, vs, cs, out, cz, h, hp, hr, h1 => by
    cases hp with
    | @cons _ _ v _ vs hx hps =>
    simp only [fillP] at h
    cases hpl : place i with
    | none => rw [hpl] at h; cases h
    | some os =>
      obtain ⟨off, size⟩ := os
      rw [hpl] at h
      simp only at h
      cases hb : (!x.isTuple && Nat.beq x.cells.length size && Nat.ble (off + x.cells.length) cs.length) with
      | false => rw [hb, cond_false] at h; cases h
      | true =>
        rw [hb, cond_true] at h
        simp only [Bool.and_eq_true, Bool.not_eq_true'] at hb
        obtain ⟨⟨hb1, hb2⟩, hb3⟩ := hb
        have hsz := Nat.eq_of_beq_eq_true hb2
        have hle := Nat.le_of_ble_eq_true hb3
        obtain ⟨hc, hone⟩ := hx.cells hb1
        have hcl : v.cells.size = x.cells.length := by rw [hc.length]; simp
        have hzl : cz.size = cs.length := by rw [hr.length]; simp
        have hn : ¬ ((v.cells.size ≠ size || decide (off + v.cells.size > cz.size)) = true) := by simp; omega
        have hfold : (v.cells.zipIdx.foldl (fun cs (c, j) => cs.setIfInBounds (off + j) c) cz) = ((v.cells.toList.zipIdx 0).foldl (fun cs (c, j) => cs.setIfInBounds (off + j) c) cz) := by
          rw [← Array.foldl_toList]; simp
        have hget : ∀ k, ((v.cells.toList.zipIdx 0).foldl (fun cs (c, j) => cs.setIfInBounds (off + j) c) cz)[k]? = if off ≤ k ∧ k < off + v.cells.size then v.cells.toList[k - off]? else cz[k]? := fun k => by
          have := setAll_get off v.cells.toList 0 cz k (by simp; omega)
          simpa using this
        have hsz2 : ((v.cells.toList.zipIdx 0).foldl (fun cs (c, j) => cs.setIfInBounds (off + j) c) cz).size = cz.size := setAll_size off v.cells.toList 0 cz
        have hr' : VRs E.ρ β (splice cs off x.cells) ((v.cells.toList.zipIdx 0).foldl (fun cs (c, j) => cs.setIfInBounds (off + j) c) cz).toList := by
          refine VRs.of_get (by rw [splice_length]; simp only [Array.length_toList]; rw [hsz2]; omega) fun k y hy => ?_
          rw [splice_get _ _ _ _ hle] at hy
          have hk := hget k
          simp only [Array.getElem?_toList]
          rw [hk]
          by_cases hi : off ≤ k ∧ k < off + x.cells.length
          · rw [if_pos hi] at hy
            rw [if_pos (by omega)]
            exact hc.get hy
          · rw [if_neg hi] at hy
            rw [if_neg (by omega)]
            obtain ⟨u, hu, hv⟩ := hr.get hy
            exact ⟨u, by simpa using hu, hv⟩
        have h1' : ∀ u ∈ ((v.cells.toList.zipIdx 0).foldl (fun cs (c, j) => cs.setIfInBounds (off + j) c) cz).toList, u.oneCell' = true := by
          intro u hu
          obtain ⟨k, hk⟩ := List.getElem?_of_mem hu
          simp only [Array.getElem?_toList] at hk
          rw [hget k] at hk
          split at hk
          · exact hone u (List.mem_of_getElem? hk)
          · exact h1 u (List.mem_of_getElem? (by simpa using hk))
        obtain ⟨cout, ho1, ho2, ho3, ho4⟩ := fillP_sound h hps hr' h1'
        refine ⟨cout, ?_, ho2, ho3, by rw [ho4, hsz2]⟩
        simp only [Instr.fill, hpl]
        rw [if_neg (by simpa using hn), hfold]
        exact ho1
end
end Go.Ae
