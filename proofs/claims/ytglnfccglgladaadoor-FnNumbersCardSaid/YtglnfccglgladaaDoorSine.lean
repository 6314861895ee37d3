/-
  The sine of a quarter of a turn is 1. (Printed by wip/tools/sine.py.)
-/
import Derived.Test.YtglnfccglgladaaDoorAngleC
namespace Go.Proofs.YtglnfccglgladaaDoor
open Go.RowKit Ieee
set_option linter.unusedVariables false

theorem trunc_run : ∀ w, (callFunc 160 #[.float .f64 4598175219545276416]).run Tryd.prog w = .ok (.value (.float .f64 0)) w := fun w => by kernel_rfl
theorem trunc_c (w : World) : Calls Tryd.prog 147 #[.float .f64 4598175219545276416] w fun e w' => e = .returned (.float .f64 0) ∧ w = w' := by
  have h := trunc_run
  go_enter Tryd.func147, Tryd.ntmps147
  go_wp2_with (simp only [h])
  go_ret
  exact ⟨rfl, rfl⟩
theorem partOf_c (w : World) : Calls Tryd.prog 132 #[.float .f64 4598175219545276416] w fun e w' => e = .returned (.float .f64 4598175219545276416) ∧ w = w' := by
  have h1 : FloatKind.f64.format.order 0 0 = some .eq := by decide +kernel
  have h2 : FloatKind.f64.format.order 4598175219545276416 0 = some .gt := by decide +kernel
  go_enter Tryd.func132, Tryd.ntmps132
  go_wp2_with (go_at_call 147; refine (trunc_c _).mono ?_; rintro e w1 ⟨rfl, rfl⟩)
  go_ret
  exact ⟨rfl, rfl⟩
/-- The row, number by number. -/
def sP : Nat → Nat
  | 0 => 4607182418800017408
  | 1 => 4607100711545048584
  | 2 => 4607077548472490218
  | 3 => 4607041613568030269
  | 4 => 4606983537433042945
  | 5 => 4606880562504908746
  | 6 => 4606671000400092530
  | 7 => 4606134293848575110
  | _ => 4603909380684499324

set_option maxRecDepth 100000 in
set_option maxHeartbeats 4000000 in
theorem sine_c (w : World) : Calls Tryd.prog 105 #[.float .f64 4598175219545276416] w fun e w' => e = .returned (.float .f64 4607182418800017604) ∧ w = w' := by
  have h1 : FloatKind.f64.format.order 4598175219545276416 4602678819172646912 = some .lt := by decide +kernel
  have h2 : FloatKind.f64.format.order 4598175219545276416 4598175219545276416 = some .eq := by decide +kernel
  have h3 := rf (P := Tryd.prog) (show floatBits .mul .f64 4598175219545276416 4618760256179416344 = some 4609753056924675352 by decide +kernel)
  have h4 := rf (P := Tryd.prog) (show floatBits .mul .f64 4609753056924675352 4609753056924675352 = some 4612738512137897438 by decide +kernel)
  have h5 := rf (P := Tryd.prog) (show floatBits .mul .f64 4609753056924675352 4603909380684499324 = some 4607182418800017604 by decide +kernel)
  go_enter Tryd.func105, Tryd.ntmps105
  go_wp2_with (go_at_call 132; refine (partOf_c _).mono ?_; rintro e w1 ⟨rfl, rfl⟩)
  go_loop [7, 8] (fun v c => ∃ (i : Nat), i ≤ 8 ∧ v = .float .f64 (sP i) ∧ c = .int .i64 (8 - i)) (fun _ c => (intOf c).toNat)
  case atStart => exact ⟨0, Nat.zero_le _, rfl, rfl⟩
  case round =>
    obtain ⟨i, hi, rfl, rfl⟩ := hrel
    rcases (show i = 0 ∨ i = 1 ∨ i = 2 ∨ i = 3 ∨ i = 4 ∨ i = 5 ∨ i = 6 ∨ i = 7 ∨ i = 8 by omega) with rfl | rfl | rfl | rfl | rfl | rfl | rfl | rfl | rfl
    · have r1 := rf (P := Tryd.prog) (show floatBits .mul .f64 4612738512137897438 4607182418800017408 = some 4612738512137897438 by decide +kernel)
      have r2 := rf (P := Tryd.prog) (show floatBits .quo .f64 4612738512137897438 (floatOfInt .f64 272) = some 4576382886099058174 by decide +kernel)
      have r3 := rf (P := Tryd.prog) (show floatBits .sub .f64 one64 4576382886099058174 = some 4607100711545048584 by decide +kernel)
      simp only [sP]
      go_wp2
      go_round
      case rel => exact ⟨1, by omega, rfl, rfl⟩
      case measure => simp [intOf]
    · have r1 := rf (P := Tryd.prog) (show floatBits .mul .f64 4612738512137897438 4607100711545048584 = some 4612688110995194861 by decide +kernel)
      have r2 := rf (P := Tryd.prog) (show floatBits .quo .f64 4612688110995194861 (floatOfInt .f64 210) = some 4577865322742793573 by decide +kernel)
      have r3 := rf (P := Tryd.prog) (show floatBits .sub .f64 one64 4577865322742793573 = some 4607077548472490218 by decide +kernel)
      simp only [sP]
      go_wp2
      go_round
      case rel => exact ⟨2, by omega, rfl, rfl⟩
      case measure => simp [intOf]
    · have r1 := rf (P := Tryd.prog) (show floatBits .mul .f64 4612738512137897438 4607077548472490218 = some 4612673822847515811 by decide +kernel)
      have r2 := rf (P := Tryd.prog) (show floatBits .quo .f64 4612673822847515811 (floatOfInt .f64 156) = some 4580162988832012369 by decide +kernel)
      have r3 := rf (P := Tryd.prog) (show floatBits .sub .f64 one64 4580162988832012369 = some 4607041613568030269 by decide +kernel)
      simp only [sP]
      go_wp2
      go_round
      case rel => exact ⟨3, by omega, rfl, rfl⟩
      case measure => simp [intOf]
    · have r1 := rf (P := Tryd.prog) (show floatBits .mul .f64 4612738512137897438 4607041613568030269 = some 4612651656391815146 by decide +kernel)
      have r2 := rf (P := Tryd.prog) (show floatBits .quo .f64 4612651656391815146 (floatOfInt .f64 110) = some 4582021425151606758 by decide +kernel)
      have r3 := rf (P := Tryd.prog) (show floatBits .sub .f64 one64 4582021425151606758 = some 4606983537433042945 by decide +kernel)
      simp only [sP]
      go_wp2
      go_round
      case rel => exact ⟨4, by omega, rfl, rfl⟩
      case measure => simp [intOf]
    · have r1 := rf (P := Tryd.prog) (show floatBits .mul .f64 4612738512137897438 4606983537433042945 = some 4612615832111973324 by decide +kernel)
      have r2 := rf (P := Tryd.prog) (show floatBits .quo .f64 4612615832111973324 (floatOfInt .f64 72) = some 4584990521757533024 by decide +kernel)
      have r3 := rf (P := Tryd.prog) (show floatBits .sub .f64 one64 4584990521757533024 = some 4606880562504908746 by decide +kernel)
      simp only [sP]
      go_wp2
      go_round
      case rel => exact ⟨5, by omega, rfl, rfl⟩
      case measure => simp [intOf]
    · have r1 := rf (P := Tryd.prog) (show floatBits .mul .f64 4612738512137897438 4606880562504908746 = some 4612552311999228627 by decide +kernel)
      have r2 := rf (P := Tryd.prog) (show floatBits .quo .f64 4612552311999228627 (floatOfInt .f64 42) = some 4588343515434592480 by decide +kernel)
      have r3 := rf (P := Tryd.prog) (show floatBits .sub .f64 one64 4588343515434592480 = some 4606671000400092530 by decide +kernel)
      simp only [sP]
      go_wp2
      go_round
      case rel => exact ⟨6, by omega, rfl, rfl⟩
      case measure => simp [intOf]
    · have r1 := rf (P := Tryd.prog) (show floatBits .mul .f64 4612738512137897438 4606671000400092530 = some 4612423043557228897 by decide +kernel)
      have r2 := rf (P := Tryd.prog) (show floatBits .quo .f64 4612423043557228897 (floatOfInt .f64 20) = some 4593049420274703310 by decide +kernel)
      have r3 := rf (P := Tryd.prog) (show floatBits .sub .f64 one64 4593049420274703310 = some 4606134293848575110 by decide +kernel)
      simp only [sP]
      go_wp2
      go_round
      case rel => exact ⟨7, by omega, rfl, rfl⟩
      case measure => simp [intOf]
    · have r1 := rf (P := Tryd.prog) (show floatBits .mul .f64 4612738512137897438 4606134293848575110 = some 4612091975973294533 by decide +kernel)
      have r2 := rf (P := Tryd.prog) (show floatBits .quo .f64 4612091975973294533 (floatOfInt .f64 6) = some 4600217696148942087 by decide +kernel)
      have r3 := rf (P := Tryd.prog) (show floatBits .sub .f64 one64 4600217696148942087 = some 4603909380684499324 by decide +kernel)
      simp only [sP]
      go_wp2
      go_round
      case rel => exact ⟨8, by omega, rfl, rfl⟩
      case measure => simp [intOf]
    · simp only [sP]
      go_wp2
      go_ret
      exact ⟨rfl, rfl⟩
theorem sineTurns_c (w : World) : Calls Tryd.prog 58 #[.float .f32 1048576000] w fun e w' => e = .returned (.float .f32 1065353216) ∧ Below w.heap.size w w' := by
  have F : Hid (finB 1048576000 = true) := Lib.hid (by decide +kernel)
  have c1 := fun w => run_convert_float_float (P := Tryd.prog) w 24 65 .f32 .f64 1048576000 4598175219545276416 (by rw [Tryd.underlying24]; rfl) Tryd.underlying65 (by decide +kernel)
  have c2 := fun w => run_convert_float_float (P := Tryd.prog) w 65 24 .f64 .f32 4607182418800017604 1065353216 (by rw [Tryd.underlying65]; rfl) Tryd.underlying24 (by decide +kernel)
  have h1 : FloatKind.f64.format.order 4598175219545276416 4841369599423283200 = some .lt := by decide +kernel
  have A := Lib.hid (fun w => abs64_c (x := 4598175219545276416) (by omega) w)
  rw [show 4598175219545276416 % 9223372036854775808 = 4598175219545276416 from rfl] at A
  go_enter Tryd.func58, Tryd.ntmps58
  go_wp2_with (first
    | (go_at_call 103; refine (isFinite_c _ _).mono ?_; rintro e w1 ⟨rfl, hw⟩; have HB := Lib.hid hw; clear hw; rw [F.out])
    | (go_at_call 102; refine (A.out _).mono ?_; rintro e w2 ⟨rfl, rfl⟩)
    | (go_at_call 105; refine (sine_c _).mono ?_; rintro e w3 ⟨rfl, rfl⟩))
  go_ret
  exact ⟨rfl, HB.out⟩
end Go.Proofs.YtglnfccglgladaaDoor
