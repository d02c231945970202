/- Regions whose order the run draws. -/
import Derived.Test.YteginejafomfmaaGreatDoorAeDraw4
set_option linter.unusedVariables false
set_option linter.unusedSimpArgs false
set_option maxHeartbeats 1000000
namespace Go.Ae
open Go

theorem tail_le (P : Program) (l : List Oper) : tailOf P l ≤ l.length := by
  unfold tailOf
  simp only
  split
  · exact Nat.le_refl _
  · cases h : (List.range l.length).find? _ with
    | none => exact Nat.le_refl _
    | some k =>
      have := List.mem_of_find?_eq_some h
      simp only [List.mem_range] at this
      exact Nat.le_of_lt this
theorem tail_ahead (P : Program) {l : List Oper} {i : Nat} {o : Oper} (hi : tailOf P l ≤ i) (ho : l[i]? = some o) {j : Nat} (hj : j < tailOf P l) : ((befores l).getD i 0).testBit j = true := by
  have hlt : i < l.length := (List.getElem?_eq_some_iff.1 ho).1
  unfold tailOf at hi hj
  simp only at hi hj
  split at hi
  · omega
  · rename_i hch
    rw [if_neg hch] at hj
    cases h : (List.range l.length).find? (fun k => (List.range l.length).all fun i => Nat.blt i k ||
      (((l[i]?).map fun o => isStore o || isPure P o).getD false && Nat.beq (((befores l).getD i 0) &&& (2 ^ k - 1)) (2 ^ k - 1))) with
    | none => rw [h] at hi; simp only [Option.getD_none] at hi; omega
    | some k =>
      rw [h] at hi hj
      simp only [Option.getD_some] at hi hj
      have hp := List.find?_some h
      rw [List.all_eq_true] at hp
      have := hp i (List.mem_range.2 hlt)
      simp only [Bool.or_eq_true, Bool.and_eq_true] at this
      rcases this with h1 | ⟨_, h2⟩
      · have : i < k := by simpa [Nat.blt_eq] using h1
        omega
      · have h3 := Nat.eq_of_beq_eq_true h2
        have h4 : (2 ^ k - 1).testBit j = true := by rw [Nat.testBit_two_pow_sub_one]; simpa using hj
        rw [← h3, Nat.testBit_and, Bool.and_eq_true] at h4
        exact h4.1

theorem orderly_facts {P : Program} {l : List Oper} (h : orderly P l = true) :
    Back l ∧ chained P l (tailOf P l) = true ∧
    (∀ (i j : Nat) (oi oj : Oper) (d : Tmp), l[i]? = some oi → l[j]? = some oj → i ≠ j → oi.dst = some d → oj.dst ≠ some d ∧ (d ∈ looksA l oj → ((befores l).getD j 0).testBit i = true ∨ ((befores l).getD i 0).testBit j = true)) ∧
    (∀ (i : Nat) (o : Oper) (d : Tmp), l[i]? = some o → o.dst = some d → d ∉ looksA l o) := by
  unfold orderly at h
  simp only [Bool.and_eq_true] at h
  obtain ⟨⟨⟨⟨h1, h2⟩, h3⟩, h4⟩, _⟩ := h
  rw [List.all_eq_true] at h1 h3 h4
  refine ⟨fun i o ho e he hb => ?_, h2, fun i j oi oj d hi hj hne hd => ?_, fun i o d ho hd hm => ?_⟩
  · have := h1 (o, i) (List.mem_zipIdx_iff_getElem?.2 ho)
    simp only at this
    rw [List.all_eq_true] at this
    have := this e (by simpa using he)
    rw [hb] at this
    simpa [Nat.blt_eq] using this
  · have := h3 (oi, i) (List.mem_zipIdx_iff_getElem?.2 hi)
    simp only [hd] at this
    rw [List.all_eq_true] at this
    have := this (oj, j) (List.mem_zipIdx_iff_getElem?.2 hj)
    simp only [Bool.or_eq_true, Bool.and_eq_true, bne_iff_ne, ne_eq, Bool.not_eq_true'] at this
    rcases this with h5 | ⟨h5, h6⟩
    · exact absurd (Nat.eq_of_beq_eq_true h5) hne
    · refine ⟨h5, fun hm => ?_⟩
      rcases h6 with (h6 | h6) | h6
      · rw [List.contains_iff_mem.2 hm] at h6; cases h6
      · exact .inl h6
      · exact .inr h6
  · have := h4 (o, i) (List.mem_zipIdx_iff_getElem?.2 ho)
    simp only [hd, Bool.not_eq_true'] at this
    rw [List.contains_iff_mem.2 hm] at this; cases this

theorem chained_spec {P : Program} {l : List Oper} {m : Nat} (h : chained P l m = true) {i j : Nat} (hij : i < j) (hj : j < m) (hi : (effMask P l).testBit i = true) (hje : (effMask P l).testBit j = true) : ((befores l).getD j 0).testBit i = true := by
  unfold chained at h
  simp only at h
  rw [List.all_eq_true] at h
  have := h j (List.mem_range.2 hj)
  rw [hje] at this
  simp only [Bool.not_true, Bool.false_or] at this
  rw [List.all_eq_true] at this
  have := this i (List.mem_range.2 hij)
  rw [hi] at this
  simpa using this

theorem draw_sound {P : Program} {E : Env} {H : Hook} {n : Nat} (hop : ∀ m < n, OpSound P E H m) (hmix : P.follows .mixedOrders = true) {id : Nat} {ops : Array Oper} {N : Nat} (hfit : fitsC N (.region id ops true) = true)
    {fr : T AVal} {h : Hp} {r : Res} {β : Beta} {w : World} {a : Act} (he : evalCode P E.G H n (.region id ops true) fr h = some r) (rel : Rel E β h w) (hf : FrR E β N fr a) :
    (Code.region id ops true).wp P (Post E β h w N r) a w := by
  cases n with
  | zero => simp [evalCode] at he
  | succ n =>
    simp only [evalCode] at he
    cases ho : orderly P ops.toList with
    | false => rw [ho] at he; cases he
    | true =>
      rw [ho, cond_true] at he
      split at he
      · rename_i s hs
        cases hag : s.rds.all (agree P E.G (s.hs ++ [s.h])) with
        | false => rw [hag] at he; cases he
        | true =>
          rw [hag, cond_true] at he
          split at he
          · rename_i fr' h' ht
            simp only [Option.some.injEq] at he
            subst he
            obtain ⟨hback, hchain, honce, hself⟩ := orderly_facts ho
            have hle := tail_le P ops.toList
            obtain ⟨st, res1, blk1, hst0, hstm, hstep⟩ := trace n (Nat.le_refl n) _ 0 _ s hs
            have hlen : (ops.toList.take (planOf P ops.toList h.next).tail).length = tailOf P ops.toList := by
              show (ops.toList.take (tailOf P ops.toList)).length = _
              rw [List.length_take]; omega
            rw [hlen, Nat.zero_add] at hstm
            obtain ⟨cf2, res2, tgt, hc1, hc2, hc3, hc4, hc5, hc6, hc7⟩ := tail_trace _ (tailOf P ops.toList) _ _ _ _ _ ht
            have hdl : (ops.toList.drop (planOf P ops.toList h.next).tail).length = ops.size - tailOf P ops.toList := by
              show (ops.toList.drop (tailOf P ops.toList)).length = _
              simp
            have hsz : ops.toList.length = ops.size := by simp
            rw [hsz] at hle
            let m := tailOf P ops.toList
            let c : Cx := { P := P, E := E, H := H, nmax := n, ops := ops, p := planOf P ops.toList h.next, m := m, N := N, st := st,
                            res := fun j => if j < m then res1 j else res2 j, blk := fun j => if j < m then blk1 j else none,
                            fr0 := fr, cf := fun j => if j < m then (st j).fr else cf2 j, h0 := h, β0 := β, w0 := w }
            have hcfm : ∀ j, j ≤ m → c.cf j = (st j).fr := fun j hj => by
              show (if j < m then _ else _) = _
              by_cases hlt : j < m
              · rw [if_pos hlt]
              · have : j = m := by omega
                subst this
                rw [if_neg hlt, hc1, hstm]
            have hcft : ∀ j, m ≤ j → c.cf j = cf2 j := fun j hj => by
              show (if j < m then _ else _) = _
              rw [if_neg (by omega)]
            have hres1 : ∀ j, j < m → c.res j = res1 j := fun j hj => if_pos hj
            have hres2 : ∀ j, m ≤ j → c.res j = res2 j := fun j hj => if_neg (by omega)
            have hblk1 : ∀ j, j < m → c.blk j = blk1 j := fun j hj => if_pos hj
            have hstep1 : ∀ (i : Nat) (o : Oper), i < m → ops.toList[i]? = some o → StepD P E.G H n ops.toList c.p i o (st i) (st (i + 1)) (res1 i) (blk1 i) := fun i o hi hoi => by
              have := hstep i o (by
                show (ops.toList.take (tailOf P ops.toList))[i]? = some o
                rw [List.getElem?_take_of_lt hi]; exact hoi)
              simpa using this
            have hstep2 : ∀ (i : Nat) (o : Oper), m ≤ i → ops.toList[i]? = some o → cf2 (i + 1) = putA (cf2 i) o.dst (res2 i) ∧ StepT P ops.toList (publishAll c.p.base s.pend s.h) o (cf2 i) (res2 i) (tgt i) := fun i o hi hoi => by
              have := hc4 (i - m) o (by
                show (ops.toList.drop (tailOf P ops.toList))[i - m]? = some o
                rw [List.getElem?_drop]
                have : tailOf P ops.toList + (i - m) = i := by show m + (i - m) = i; omega
                rw [this]; exact hoi)
              have e : tailOf P ops.toList + (i - m) = i := by show m + (i - m) = i; omega
              rw [e] at this
              exact this
            have hn : c.n = ops.size := rfl
            have k : c.Ok := by
              refine ⟨fun q hq => hop q (by have : q < n := hq; omega), hback, rfl, rfl, hle, fun i j hij hj hi hje => chained_spec hchain hij hj hi hje, honce, hself, ?_, ?_, ?_, ?_, ?_, ?_, ?_, ?_, ?_, rfl, rel⟩
              · intro i o d hoi hd
                have h1 : fitsOps N ops.toList = true := hfit
                unfold fitsOps at h1
                rw [List.all_eq_true] at h1
                have := h1 o (List.mem_of_getElem? hoi)
                rw [hd] at this
                simpa [Nat.blt_eq] using this
              · rw [hcfm 0 (Nat.zero_le _), hst0]
              · intro i o hoi
                by_cases hi : i < m
                · rw [hcfm i (by omega), hcfm (i + 1) (by omega), hres1 i hi]
                  exact (hstep1 i o hi hoi).fr_eq
                · rw [hcft i (by omega), hcft (i + 1) (by omega), hres2 i (by omega)]
                  exact (hstep2 i o (by omega) hoi).1
              · exact fun i hi => (hcfm i hi).symm
              · show (st 0).h = _
                rw [hst0, hn, hsz]
              · show (st 0).hs = _
                rw [hst0]
              · show (st 0).pend = _
                rw [hst0]
              · intro i o hi hoi
                rw [hres1 i hi, hblk1 i hi]
                exact hstep1 i o hi hoi
              · intro rd hrd
                have h1 : rd ∈ s.rds := by rw [← hstm]; exact hrd
                have := List.all_eq_true.1 hag rd h1
                show agree P E.G ((st m).hs ++ [(st m).h]) rd = true
                rw [hstm]; exact this
            have t : Cx.Tl c (publishAll c.p.base s.pend s.h) h' tgt := by
              refine ⟨fun i o hi hoi => ?_, fun i b x hi hin ht => ?_, fun q hq => hc6 q fun kk x hk => hq _ x (Nat.le_add_right _ _) (by rw [hdl] at hk; show m + kk < ops.size; have : kk < ops.size - m := hk; omega), fun i j b x x' hi hin hj hjn ht ht' => ?_, hc3, fun i o hi hoi j hj => tail_ahead P hi hoi hj, ?_⟩
              · rw [hcft i hi, hres2 i hi]
                exact (hstep2 i o hi hoi).2
              · have hi' : m ≤ i := hi
                have hin' : i < ops.size := hin
                have := hc5 (i - m) b x (by rw [hdl]; show i - m < ops.size - m; omega) (by
                  have e : tailOf P ops.toList + (i - m) = i := by show m + (i - m) = i; omega
                  rw [e]; exact ht)
                exact this.2
              · have hi' : m ≤ i := hi
                have hin' : i < ops.size := hin
                have hj' : m ≤ j := hj
                have hjn' : j < ops.size := hjn
                have e1 : tailOf P ops.toList + (i - m) = i := by show m + (i - m) = i; omega
                have e2 : tailOf P ops.toList + (j - m) = j := by show m + (j - m) = j; omega
                have := hc7 (i - m) (j - m) b x x' (by rw [hdl]; show i - m < ops.size - m; omega) (by rw [hdl]; show j - m < ops.size - m; omega) (by rw [e1]; exact ht) (by rw [e2]; exact ht')
                omega
              · show _ = publishAll c.p.base (st m).pend (st m).h
                rw [hstm]
            have hcfn : c.cf c.n = fr' := by
              rw [hn, hcft _ hle, ← hc2, hdl]
              congr 1
              show ops.size = m + (ops.size - m)
              have : m ≤ ops.size := hle
              omega
            refine wp_region_any hmix ?_
            have hw' : Rel E β h { w with drawn := w.drawn + 1 } := ⟨rel.blk, rel.inj, rel.fresh, rel.glob, rel.size⟩
            have hfr' : Frm β h w β h { w with drawn := w.drawn + 1 } := ⟨Nat.le_refl _, fun _ _ => rfl, Nat.le_refl _, fun _ _ _ => rfl, fun b x L h1 h2 _ => ⟨b, x, L, h1, h2, rfl⟩, fun _ _ h => h, rfl, rfl, rfl⟩
            exact Cx.all_ok k t hw' hfr' hf fun β' a' w' q1 q2 q3 => ⟨rfl, β', by rw [← hcfn]; exact q1, q2, q3⟩
          · cases he
      · cases he
end Go.Ae
