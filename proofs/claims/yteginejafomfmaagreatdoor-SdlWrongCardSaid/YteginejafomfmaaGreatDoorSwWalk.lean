/- SdlWrong: every run of the model answers true. Condition: the listed variables hold what the text lays. -/
import Derived.Test.YteginejafomfmaaGreatDoorSwRuns1
import Derived.Test.YteginejafomfmaaGreatDoorSwRuns2
import Derived.Test.YteginejafomfmaaGreatDoorAeLaid
import Derived.Test.YteginejafomfmaaGreatDoorRows
set_option linter.unusedVariables false
set_option linter.unusedSimpArgs false
namespace Go.Proofs
open Go Go.Ae
theorem sw_all : ∀ k a : Nat, k < 10 → a < 10 → swRun k a = true
  | 0, 0, _, _ => sw0_0
  | 0, 1, _, _ => sw0_1
  | 0, 2, _, _ => sw0_2
  | 0, 3, _, _ => sw0_3
  | 0, 4, _, _ => sw0_4
  | 0, 5, _, _ => sw0_5
  | 0, 6, _, _ => sw0_6
  | 0, 7, _, _ => sw0_7
  | 0, 8, _, _ => sw0_8
  | 0, 9, _, _ => sw0_9
  | 1, 0, _, _ => sw1_0
  | 1, 1, _, _ => sw1_1
  | 1, 2, _, _ => sw1_2
  | 1, 3, _, _ => sw1_3
  | 1, 4, _, _ => sw1_4
  | 1, 5, _, _ => sw1_5
  | 1, 6, _, _ => sw1_6
  | 1, 7, _, _ => sw1_7
  | 1, 8, _, _ => sw1_8
  | 1, 9, _, _ => sw1_9
  | 2, 0, _, _ => sw2_0
  | 2, 1, _, _ => sw2_1
  | 2, 2, _, _ => sw2_2
  | 2, 3, _, _ => sw2_3
  | 2, 4, _, _ => sw2_4
  | 2, 5, _, _ => sw2_5
  | 2, 6, _, _ => sw2_6
  | 2, 7, _, _ => sw2_7
  | 2, 8, _, _ => sw2_8
  | 2, 9, _, _ => sw2_9
  | 3, 0, _, _ => sw3_0
  | 3, 1, _, _ => sw3_1
  | 3, 2, _, _ => sw3_2
  | 3, 3, _, _ => sw3_3
  | 3, 4, _, _ => sw3_4
  | 3, 5, _, _ => sw3_5
  | 3, 6, _, _ => sw3_6
  | 3, 7, _, _ => sw3_7
  | 3, 8, _, _ => sw3_8
  | 3, 9, _, _ => sw3_9
  | 4, 0, _, _ => sw4_0
  | 4, 1, _, _ => sw4_1
  | 4, 2, _, _ => sw4_2
  | 4, 3, _, _ => sw4_3
  | 4, 4, _, _ => sw4_4
  | 4, 5, _, _ => sw4_5
  | 4, 6, _, _ => sw4_6
  | 4, 7, _, _ => sw4_7
  | 4, 8, _, _ => sw4_8
  | 4, 9, _, _ => sw4_9
  | 5, 0, _, _ => sw5_0
  | 5, 1, _, _ => sw5_1
  | 5, 2, _, _ => sw5_2
  | 5, 3, _, _ => sw5_3
  | 5, 4, _, _ => sw5_4
  | 5, 5, _, _ => sw5_5
  | 5, 6, _, _ => sw5_6
  | 5, 7, _, _ => sw5_7
  | 5, 8, _, _ => sw5_8
  | 5, 9, _, _ => sw5_9
  | 6, 0, _, _ => sw6_0
  | 6, 1, _, _ => sw6_1
  | 6, 2, _, _ => sw6_2
  | 6, 3, _, _ => sw6_3
  | 6, 4, _, _ => sw6_4
  | 6, 5, _, _ => sw6_5
  | 6, 6, _, _ => sw6_6
  | 6, 7, _, _ => sw6_7
  | 6, 8, _, _ => sw6_8
  | 6, 9, _, _ => sw6_9
  | 7, 0, _, _ => sw7_0
  | 7, 1, _, _ => sw7_1
  | 7, 2, _, _ => sw7_2
  | 7, 3, _, _ => sw7_3
  | 7, 4, _, _ => sw7_4
  | 7, 5, _, _ => sw7_5
  | 7, 6, _, _ => sw7_6
  | 7, 7, _, _ => sw7_7
  | 7, 8, _, _ => sw7_8
  | 7, 9, _, _ => sw7_9
  | 8, 0, _, _ => sw8_0
  | 8, 1, _, _ => sw8_1
  | 8, 2, _, _ => sw8_2
  | 8, 3, _, _ => sw8_3
  | 8, 4, _, _ => sw8_4
  | 8, 5, _, _ => sw8_5
  | 8, 6, _, _ => sw8_6
  | 8, 7, _, _ => sw8_7
  | 8, 8, _, _ => sw8_8
  | 8, 9, _, _ => sw8_9
  | 9, 0, _, _ => sw9_0
  | 9, 1, _, _ => sw9_1
  | 9, 2, _, _ => sw9_2
  | 9, 3, _, _ => sw9_3
  | 9, 4, _, _ => sw9_4
  | 9, 5, _, _ => sw9_5
  | 9, 6, _, _ => sw9_6
  | 9, 7, _, _ => sw9_7
  | 9, 8, _, _ => sw9_8
  | 9, 9, _, _ => sw9_9
  | 0, a + 10, _, h => absurd h (by omega)
  | 1, a + 10, _, h => absurd h (by omega)
  | 2, a + 10, _, h => absurd h (by omega)
  | 3, a + 10, _, h => absurd h (by omega)
  | 4, a + 10, _, h => absurd h (by omega)
  | 5, a + 10, _, h => absurd h (by omega)
  | 6, a + 10, _, h => absurd h (by omega)
  | 7, a + 10, _, h => absurd h (by omega)
  | 8, a + 10, _, h => absurd h (by omega)
  | 9, a + 10, _, h => absurd h (by omega)
  | k + 10, _, h, _ => absurd h (by omega)
noncomputable def swEnv (x y : Int) (cv : Value) : Env := ⟨fun i => match i with
  | 0 => .int .i64 x
  | 1 => .int .i64 y
  | _ => cv, swG 4, 5⟩
theorem sdlWrong_walk (x y : Int) (W : World) (hL : laidMet Tryz.prog YteginejafomfmaaGreatDoor.Rows.sdlWrongRow.laid W) :
    Calls Tryz.prog 5 #[.int .i64 x, .int .i64 y] W fun e w' => e = .returned (.bool true) ∧ W.keptBut w' (fun _ => False) := by
  obtain ⟨g, u, v, hg, hlt, hcell⟩ := laidMet_iface (n := "strconv.ErrSyntax") hL (List.mem_cons_of_mem _ (List.mem_cons_of_mem _ (List.mem_cons_of_mem _ (List.mem_cons_of_mem _ (List.mem_cons_of_mem _ (List.mem_cons_self ..))))))
  have hg4 : g = 4 := Option.some.inj (hg.symm.trans (show Tryz.prog.globalNamed "strconv.ErrSyntax" = some 4 by kernel_rfl))
  subst hg4
  have hx0 := Int.emod_nonneg x (show (10 : Int) ≠ 0 by decide)
  have hx1 := Int.emod_lt_of_pos x (show (0 : Int) < 10 by decide)
  have hy0 := Int.emod_nonneg y (show (10 : Int) ≠ 0 by decide)
  have hy1 := Int.emod_lt_of_pos y (show (0 : Int) < 10 by decide)
  obtain ⟨k, hk⟩ := Int.eq_ofNat_of_zero_le hx0
  obtain ⟨a, ha⟩ := Int.eq_ofNat_of_zero_le hy0
  have hrun := sw_all k a (by omega) (by omega)
  obtain ⟨h', he⟩ := Out.is_ok hrun
  have hook : HookOk Tryz.prog (swEnv x y (.iface u v)) (hookPA 8 11 (swPv k a)) := by
    refine hookPA_ok has_place has_awake place_c awake_c fun i n r hr => ?_
    unfold swPv at hr
    split at hr
    · cases hr; exact ⟨x, rfl, by decide, by decide, hk⟩
    · cases hr; exact ⟨y, rfl, by decide, by decide, ha⟩
    · cases hr
  have ok := fast_sound (E := swEnv x y (.iface u v)) mix fits ord hook Tryz.func5 (by kernel_rfl) he
  have rel : Rel (swEnv x y (.iface u v)) (fun _ => none) Hp.empty W := by
    refine ⟨fun b x hb => ?_, fun b b' x x' L L' hb => ?_, fun _ _ => rfl, fun g v' hg => ?_, hlt⟩
    · rw [show Hp.empty.get b = none from T.get_e b] at hb; cases hb
    · rw [show Hp.empty.get b = none from T.get_e b] at hb; cases hb
    · have hg' : (Bool.rec none (some (.opq 2)) (Nat.beq g 4) : Option AVal) = some v' := hg
      cases h4 : Nat.beq g 4 with
      | false => rw [h4] at hg'; cases hg'
      | true =>
        rw [h4] at hg'
        have := Nat.eq_of_beq_eq_true h4
        subst this
        cases hg'
        exact ⟨(show 4 < 5 by decide), _, hcell, fun β' => .opq 2 rfl (by intro b h; cases h)⟩
  refine (ok (fun _ => none) W [.int .i64 x, .int .i64 y] rel (.cons (.opq 0 rfl (by intro b h; cases h)) (.cons (.opq 1 rfl (by intro b h; cases h)) .nil))).mono fun e w' he => ?_
  obtain ⟨cv, β', rfl, hv, _, hf⟩ := he
  cases hv
  exact ⟨rfl, hf.kept⟩
end Go.Proofs
