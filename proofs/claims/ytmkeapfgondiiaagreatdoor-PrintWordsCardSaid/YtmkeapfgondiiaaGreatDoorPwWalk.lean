/- PrintWords: every run of the model answers true. No condition. -/
import Derived.Test.YtmkeapfgondiiaaGreatDoorPwRuns0
import Derived.Test.YtmkeapfgondiiaaGreatDoorPwRuns1
import Derived.Test.YtmkeapfgondiiaaGreatDoorPwRuns2
import Derived.Test.YtmkeapfgondiiaaGreatDoorPwRuns3
import Derived.Test.YtmkeapfgondiiaaGreatDoorPwRuns4
import Derived.Test.YtmkeapfgondiiaaGreatDoorPwRuns5
import Derived.Test.YtmkeapfgondiiaaGreatDoorPwRuns6
import Derived.Test.YtmkeapfgondiiaaGreatDoorPwRuns7
import Derived.Test.YtmkeapfgondiiaaGreatDoorPwRuns8
import Derived.Test.YtmkeapfgondiiaaGreatDoorPwRuns9
import Derived.Test.YtmkeapfgondiiaaGreatDoorEvJ
set_option linter.unusedVariables false
set_option linter.unusedSimpArgs false
namespace Go.Proofs
open Go Go.Ae
theorem pw_all : ∀ (a b : Nat) (al : Bool) (c : Nat), a < 5 → b < 4 → c < 4 → pwRun a b al c = true
  | 0, 0, false, 0, _, _, _ => pw0000
  | 0, 0, false, 1, _, _, _ => pw0001
  | 0, 0, false, 2, _, _, _ => pw0002
  | 0, 0, false, 3, _, _, _ => pw0003
  | 0, 0, true, 0, _, _, _ => pw0010
  | 0, 0, true, 1, _, _, _ => pw0011
  | 0, 0, true, 2, _, _, _ => pw0012
  | 0, 0, true, 3, _, _, _ => pw0013
  | 0, 1, false, 0, _, _, _ => pw0100
  | 0, 1, false, 1, _, _, _ => pw0101
  | 0, 1, false, 2, _, _, _ => pw0102
  | 0, 1, false, 3, _, _, _ => pw0103
  | 0, 1, true, 0, _, _, _ => pw0110
  | 0, 1, true, 1, _, _, _ => pw0111
  | 0, 1, true, 2, _, _, _ => pw0112
  | 0, 1, true, 3, _, _, _ => pw0113
  | 0, 2, false, 0, _, _, _ => pw0200
  | 0, 2, false, 1, _, _, _ => pw0201
  | 0, 2, false, 2, _, _, _ => pw0202
  | 0, 2, false, 3, _, _, _ => pw0203
  | 0, 2, true, 0, _, _, _ => pw0210
  | 0, 2, true, 1, _, _, _ => pw0211
  | 0, 2, true, 2, _, _, _ => pw0212
  | 0, 2, true, 3, _, _, _ => pw0213
  | 0, 3, false, 0, _, _, _ => pw0300
  | 0, 3, false, 1, _, _, _ => pw0301
  | 0, 3, false, 2, _, _, _ => pw0302
  | 0, 3, false, 3, _, _, _ => pw0303
  | 0, 3, true, 0, _, _, _ => pw0310
  | 0, 3, true, 1, _, _, _ => pw0311
  | 0, 3, true, 2, _, _, _ => pw0312
  | 0, 3, true, 3, _, _, _ => pw0313
  | 1, 0, false, 0, _, _, _ => pw1000
  | 1, 0, false, 1, _, _, _ => pw1001
  | 1, 0, false, 2, _, _, _ => pw1002
  | 1, 0, false, 3, _, _, _ => pw1003
  | 1, 0, true, 0, _, _, _ => pw1010
  | 1, 0, true, 1, _, _, _ => pw1011
  | 1, 0, true, 2, _, _, _ => pw1012
  | 1, 0, true, 3, _, _, _ => pw1013
  | 1, 1, false, 0, _, _, _ => pw1100
  | 1, 1, false, 1, _, _, _ => pw1101
  | 1, 1, false, 2, _, _, _ => pw1102
  | 1, 1, false, 3, _, _, _ => pw1103
  | 1, 1, true, 0, _, _, _ => pw1110
  | 1, 1, true, 1, _, _, _ => pw1111
  | 1, 1, true, 2, _, _, _ => pw1112
  | 1, 1, true, 3, _, _, _ => pw1113
  | 1, 2, false, 0, _, _, _ => pw1200
  | 1, 2, false, 1, _, _, _ => pw1201
  | 1, 2, false, 2, _, _, _ => pw1202
  | 1, 2, false, 3, _, _, _ => pw1203
  | 1, 2, true, 0, _, _, _ => pw1210
  | 1, 2, true, 1, _, _, _ => pw1211
  | 1, 2, true, 2, _, _, _ => pw1212
  | 1, 2, true, 3, _, _, _ => pw1213
  | 1, 3, false, 0, _, _, _ => pw1300
  | 1, 3, false, 1, _, _, _ => pw1301
  | 1, 3, false, 2, _, _, _ => pw1302
  | 1, 3, false, 3, _, _, _ => pw1303
  | 1, 3, true, 0, _, _, _ => pw1310
  | 1, 3, true, 1, _, _, _ => pw1311
  | 1, 3, true, 2, _, _, _ => pw1312
  | 1, 3, true, 3, _, _, _ => pw1313
  | 2, 0, false, 0, _, _, _ => pw2000
  | 2, 0, false, 1, _, _, _ => pw2001
  | 2, 0, false, 2, _, _, _ => pw2002
  | 2, 0, false, 3, _, _, _ => pw2003
  | 2, 0, true, 0, _, _, _ => pw2010
  | 2, 0, true, 1, _, _, _ => pw2011
  | 2, 0, true, 2, _, _, _ => pw2012
  | 2, 0, true, 3, _, _, _ => pw2013
  | 2, 1, false, 0, _, _, _ => pw2100
  | 2, 1, false, 1, _, _, _ => pw2101
  | 2, 1, false, 2, _, _, _ => pw2102
  | 2, 1, false, 3, _, _, _ => pw2103
  | 2, 1, true, 0, _, _, _ => pw2110
  | 2, 1, true, 1, _, _, _ => pw2111
  | 2, 1, true, 2, _, _, _ => pw2112
  | 2, 1, true, 3, _, _, _ => pw2113
  | 2, 2, false, 0, _, _, _ => pw2200
  | 2, 2, false, 1, _, _, _ => pw2201
  | 2, 2, false, 2, _, _, _ => pw2202
  | 2, 2, false, 3, _, _, _ => pw2203
  | 2, 2, true, 0, _, _, _ => pw2210
  | 2, 2, true, 1, _, _, _ => pw2211
  | 2, 2, true, 2, _, _, _ => pw2212
  | 2, 2, true, 3, _, _, _ => pw2213
  | 2, 3, false, 0, _, _, _ => pw2300
  | 2, 3, false, 1, _, _, _ => pw2301
  | 2, 3, false, 2, _, _, _ => pw2302
  | 2, 3, false, 3, _, _, _ => pw2303
  | 2, 3, true, 0, _, _, _ => pw2310
  | 2, 3, true, 1, _, _, _ => pw2311
  | 2, 3, true, 2, _, _, _ => pw2312
  | 2, 3, true, 3, _, _, _ => pw2313
  | 3, 0, false, 0, _, _, _ => pw3000
  | 3, 0, false, 1, _, _, _ => pw3001
  | 3, 0, false, 2, _, _, _ => pw3002
  | 3, 0, false, 3, _, _, _ => pw3003
  | 3, 0, true, 0, _, _, _ => pw3010
  | 3, 0, true, 1, _, _, _ => pw3011
  | 3, 0, true, 2, _, _, _ => pw3012
  | 3, 0, true, 3, _, _, _ => pw3013
  | 3, 1, false, 0, _, _, _ => pw3100
  | 3, 1, false, 1, _, _, _ => pw3101
  | 3, 1, false, 2, _, _, _ => pw3102
  | 3, 1, false, 3, _, _, _ => pw3103
  | 3, 1, true, 0, _, _, _ => pw3110
  | 3, 1, true, 1, _, _, _ => pw3111
  | 3, 1, true, 2, _, _, _ => pw3112
  | 3, 1, true, 3, _, _, _ => pw3113
  | 3, 2, false, 0, _, _, _ => pw3200
  | 3, 2, false, 1, _, _, _ => pw3201
  | 3, 2, false, 2, _, _, _ => pw3202
  | 3, 2, false, 3, _, _, _ => pw3203
  | 3, 2, true, 0, _, _, _ => pw3210
  | 3, 2, true, 1, _, _, _ => pw3211
  | 3, 2, true, 2, _, _, _ => pw3212
  | 3, 2, true, 3, _, _, _ => pw3213
  | 3, 3, false, 0, _, _, _ => pw3300
  | 3, 3, false, 1, _, _, _ => pw3301
  | 3, 3, false, 2, _, _, _ => pw3302
  | 3, 3, false, 3, _, _, _ => pw3303
  | 3, 3, true, 0, _, _, _ => pw3310
  | 3, 3, true, 1, _, _, _ => pw3311
  | 3, 3, true, 2, _, _, _ => pw3312
  | 3, 3, true, 3, _, _, _ => pw3313
  | 4, 0, false, 0, _, _, _ => pw4000
  | 4, 0, false, 1, _, _, _ => pw4001
  | 4, 0, false, 2, _, _, _ => pw4002
  | 4, 0, false, 3, _, _, _ => pw4003
  | 4, 0, true, 0, _, _, _ => pw4010
  | 4, 0, true, 1, _, _, _ => pw4011
  | 4, 0, true, 2, _, _, _ => pw4012
  | 4, 0, true, 3, _, _, _ => pw4013
  | 4, 1, false, 0, _, _, _ => pw4100
  | 4, 1, false, 1, _, _, _ => pw4101
  | 4, 1, false, 2, _, _, _ => pw4102
  | 4, 1, false, 3, _, _, _ => pw4103
  | 4, 1, true, 0, _, _, _ => pw4110
  | 4, 1, true, 1, _, _, _ => pw4111
  | 4, 1, true, 2, _, _, _ => pw4112
  | 4, 1, true, 3, _, _, _ => pw4113
  | 4, 2, false, 0, _, _, _ => pw4200
  | 4, 2, false, 1, _, _, _ => pw4201
  | 4, 2, false, 2, _, _, _ => pw4202
  | 4, 2, false, 3, _, _, _ => pw4203
  | 4, 2, true, 0, _, _, _ => pw4210
  | 4, 2, true, 1, _, _, _ => pw4211
  | 4, 2, true, 2, _, _, _ => pw4212
  | 4, 2, true, 3, _, _, _ => pw4213
  | 4, 3, false, 0, _, _, _ => pw4300
  | 4, 3, false, 1, _, _, _ => pw4301
  | 4, 3, false, 2, _, _, _ => pw4302
  | 4, 3, false, 3, _, _, _ => pw4303
  | 4, 3, true, 0, _, _, _ => pw4310
  | 4, 3, true, 1, _, _, _ => pw4311
  | 4, 3, true, 2, _, _, _ => pw4312
  | 4, 3, true, 3, _, _, _ => pw4313
  | a + 5, _, _, _, h, _, _ => absurd h (by omega)
  | _, b + 4, _, _, _, h, _ => absurd h (by omega)
  | _, _, _, c + 4, _, _, h => absurd h (by omega)
noncomputable def pwEnv (x y z : Int) : Env := ⟨fun i => match i with
  | 0 => .int .i64 x
  | 1 => .int .i64 y
  | _ => .int .i64 z, fun _ => none, 0⟩
theorem printWords_walk (x y : Int) (al : Bool) (z : Int) (W : World) :
    Calls Tryz.prog 5 #[.int .i64 x, .int .i64 y, .bool al, .int .i64 z] W fun e w' => e = .returned (.bool true) ∧ W.keptBut w' (fun _ => False) := by
  have hx0 := Int.emod_nonneg x (show (5 : Int) ≠ 0 by decide)
  have hx1 := Int.emod_lt_of_pos x (show (0 : Int) < 5 by decide)
  have hy0 := Int.emod_nonneg y (show (4 : Int) ≠ 0 by decide)
  have hy1 := Int.emod_lt_of_pos y (show (0 : Int) < 4 by decide)
  have hz0 := Int.emod_nonneg z (show (4 : Int) ≠ 0 by decide)
  have hz1 := Int.emod_lt_of_pos z (show (0 : Int) < 4 by decide)
  obtain ⟨a, ha⟩ := Int.eq_ofNat_of_zero_le hx0
  obtain ⟨b, hb⟩ := Int.eq_ofNat_of_zero_le hy0
  obtain ⟨c, hc⟩ := Int.eq_ofNat_of_zero_le hz0
  have hrun := pw_all a b al c (by omega) (by omega) (by omega)
  obtain ⟨h', he⟩ := Out.is_ok hrun
  have hook : HookOk Tryz.prog (pwEnv x y z) (hookPA 13 6 (pwPv a b c)) := by
    refine hookPA_ok has_place has_awake place_c awake_c fun i n r hr => ?_
    unfold pwPv at hr
    split at hr
    · cases hr; exact ⟨x, rfl, by decide, by decide, ha⟩
    · cases hr; exact ⟨y, rfl, by decide, by decide, hb⟩
    · cases hr; exact ⟨z, rfl, by decide, by decide, hc⟩
    · cases hr
  have ok := fast_sound (E := pwEnv x y z) mix fits ord hook Tryz.func5 (by kernel_rfl) he
  refine (ok (fun _ => none) W [.int .i64 x, .int .i64 y, .bool al, .int .i64 z] (Rel.empty _ rfl rfl W) (.cons (.opq 0 rfl (by intro b h; cases h)) (.cons (.opq 1 rfl (by intro b h; cases h)) (.cons (.bool al) (.cons (.opq 2 rfl (by intro b h; cases h)) .nil))))).mono fun e w' he => ?_
  obtain ⟨cv, β', rfl, hv, _, hf⟩ := he
  cases hv
  exact ⟨rfl, hf.kept⟩
end Go.Proofs
