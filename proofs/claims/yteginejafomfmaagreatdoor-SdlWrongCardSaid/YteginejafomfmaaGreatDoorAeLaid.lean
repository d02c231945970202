/- What the listed variables' premise says of a variable that holds an interface value; the row's end for a law that was handed plain values. No condition. -/
import Derived.Test.YteginejafomfmaaGreatDoorAeHook2
import Derived.Eval
import Derived.RowKit3
import Derived.MakeChecks
set_option linter.unusedVariables false
set_option linter.unusedSimpArgs false
namespace Go.Ae
open Go
theorem trod_iface {H : Type} {enc : TypeId × Value → H} {P : Program} {w : World} {base : Nat} {spare : Nat → Bool} {held : Bool} {fuel : Nat} {t : TypeId} {cs : List Value} {nm : String} {d : DataW H} {ps : List MemPlace}
    (h : DataW.trod enc P w base spare held fuel t cs = some (.iface nm d, ps)) : ∃ u v, cs = [.iface u v] := by
  cases fuel with
  | zero => simp [DataW.trod] at h
  | succ fuel =>
    unfold DataW.trod at h
    split at h
    all_goals first
      | (exfalso; simp at h; done)
      | (exfalso; split at h <;> simp at h; done)
      | exact ⟨_, _, rfl⟩
      | skip
    all_goals exfalso
    all_goals first
      | (rw [Option.map_eq_some_iff] at h
         obtain ⟨x, _, h⟩ := h
         simp at h
         done)
      | (split at h
         · rw [Option.bind_eq_some_iff] at h
           obtain ⟨x, _, h⟩ := h
           simp at h
           done
         · simp at h
           done)
      | (split at h
         · split at h
           · rw [Option.bind_eq_some_iff] at h
             obtain ⟨x, _, h⟩ := h
             simp only at h
             split at h
             · simp at h
             · simp at h
           · simp at h
         · simp at h)
theorem laid_iface {P : Program} {w : World} {n : String} {nm : String} {d : DataW Unit} : ∀ {l : List (String × DataW Unit)} {ps : List MemPlace}, DataW.LaidVars P w l ps → (n, .iface nm d) ∈ l →
    ∃ g u v, P.globalNamed n = some g ∧ g < w.heap.size ∧ w.cell? ⟨g, 0, none⟩ = some (.iface u v)
  | [], ps, h, hm => by cases hm
  | (n', d') :: l, ps, h, hm => by
    obtain ⟨g, t, cs, fuel, p, q, h1, h2, h3, h4, h5, _⟩ := h
    rcases List.mem_cons.1 hm with hm | hm
    · cases hm
      obtain ⟨u, v, hcs⟩ := trod_iface h4
      unfold World.var? at h3
      rw [h1] at h3
      simp only [Option.bind_some] at h3
      cases hg : w.heap[g]? with
      | none => rw [hg] at h3; cases h3
      | some o =>
        rw [hg] at h3
        cases o with
        | cells c t' fr =>
          simp only [Option.some.injEq] at h3
          subst h3
          refine ⟨g, u, v, h1, ?_, ?_⟩
          · rcases Nat.lt_or_ge g w.heap.size with h | h
            · exact h
            · rw [Array.getElem?_eq_none h] at hg; cases hg
          · unfold World.cell?
            rw [hg]
            simp only [Option.isSome_none]
            have : c[0]? = some (.iface u v) := by rw [← Array.getElem?_toList, hcs]; rfl
            exact this
        | _ => cases h3
    · exact laid_iface h5 hm
theorem laidMet_iface {P : Program} {w : World} {n : String} {nm : String} {d : DataW Unit} {l : List (String × DataW Unit)} (h : laidMet P l w) (hm : (n, .iface nm d) ∈ l) :
    ∃ g u v, P.globalNamed n = some g ∧ g < w.heap.size ∧ w.cell? ⟨g, 0, none⟩ = some (.iface u v) := by
  obtain ⟨ps, h1, _⟩ := h
  exact laid_iface h1 hm

theorem Frm.kept {β β' : Beta} {h' : Hp} {w w' : World} (f : Frm β Hp.empty w β' h' w') : w.keptBut w' (fun _ => False) := by
  refine ⟨f.os, f.output, fun i hi => ?_⟩
  have he : w'.heap[i]? = w.heap[i]? := f.keeps.same i hi
  rw [he]
  cases w.heap[i]? with
  | none => rfl
  | some o => cases o <;> first | exact ⟨rfl, rfl, rfl, fun _ _ => rfl⟩ | exact .inr ⟨rfl, rfl⟩ | rfl
end Go.Ae
