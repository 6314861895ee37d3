/-
  The angle of any point is told twice alike.
-/
import Derived.Test.YtglnfccglgladaaDoorAngleW
namespace Go.Proofs.YtglnfccglgladaaDoor
open Go.RowKit Ieee
set_option linter.unusedVariables false

theorem mathNaN_c (w : World) : Calls Tryd.prog 101 #[] w fun e w' => e = .returned (.float .f64 9221120237041090561) ∧ w = w' := by
  have h := fun w => frombits64_any 9221120237041090561 w
  rw [show (((9221120237041090561 : Nat) : Int)) = 9221120237041090561 from rfl] at h
  go_enter Tryd.func101, Tryd.ntmps101
  go_wp2_with (simp only [h])
  go_ret
  exact ⟨rfl, rfl⟩
theorem nanLit_run : ∀ w, (convert 65 24 (.float .f64 9221120237041090561)).run Tryd.prog w = .ok (.float .f32 (nanOf (.nanConv .f32 9221120237041090561) w)) w.drew :=
  run_conv_nan (s := .f64) (k := .f32) (by decide) (sg := false) (f := 2251799813685249) (by decide +kernel) _ _ (by rw [Tryd.underlying65]; rfl) Tryd.underlying24

theorem angleNan {y x : Nat} (hf : ([y, x].all finB) = false) (w : World) :
    Calls Tryd.prog 55 #[.float .f32 y, .float .f32 x] w fun e w' => (∃ r, e = .returned (.float .f32 r) ∧ SumIs none r) ∧ Below w.heap.size w w' := by
  have N := Lib.hid (finite_c (c := 2) (nums_new w [y, x] (by simp)) (by simp))
  rw [hf] at N
  have hr := nanLit_run
  have hq : AsksNan .f32 (.nanConv .f32 9221120237041090561) := Or.inr ⟨_, rfl⟩
  generalize Question.nanConv .f32 9221120237041090561 = q at hr hq
  clear hf
  go_enter Tryd.func55, Tryd.ntmps55
  go_wp2_with (first
    | (go_at_call 95; refine N.out.mono ?_; rintro e w1 ⟨rfl, hw⟩; have HB := Lib.hid (bthen (below1 _ _) hw); clear hw N)
    | (go_at_call 101; refine (mathNaN_c _).mono ?_; rintro e w2 ⟨rfl, rfl⟩))
  go_ret
  exact ⟨⟨_, rfl, nanOf_w32 hq _, nanOf_nan32 hq _⟩, HB.out.drew⟩
theorem angleZero {y x : Nat} (hf : ([y, x].all finB) = true) (hx : FloatKind.f32.format.order x 0 = some .eq) (hy : FloatKind.f32.format.order y 0 = some .eq) (w : World) :
    Calls Tryd.prog 55 #[.float .f32 y, .float .f32 x] w fun e w' => e = .returned (.float .f32 0) ∧ Below w.heap.size w w' := by
  have N := Lib.hid (finite_c (c := 2) (nums_new w [y, x] (by simp)) (by simp))
  rw [hf] at N
  clear hf
  go_enter Tryd.func55, Tryd.ntmps55
  go_wp2_with (go_at_call 95; refine N.out.mono ?_; rintro e w1 ⟨rfl, hw⟩; have HB := Lib.hid (bthen (below1 _ _) hw); clear hw N)
  go_ret
  exact ⟨rfl, HB.out⟩

theorem zero_mag {x : Nat} {s : Bool} {m : Nat} {e : Int} (h : FloatKind.f32.format.read x = .number s m e) (h0 : m = 0) : FloatKind.f32.format.order x 0 = some .eq := by
  subst h0
  have hz : FloatKind.f32.format.read 0 = .number false 0 (-149) := by decide +kernel
  unfold Format.order
  rw [h, hz]
  simp only [Datum.order]
  unfold signed
  cases s <;> simp [Std.ReflCmp.compare_self]

theorem angle_c {y x : Nat} (hy : W32 y) (hx : W32 x) : ∃ o, ∀ w, Calls Tryd.prog 55 #[.float .f32 y, .float .f32 x] w fun e w' => (∃ r, e = .returned (.float .f32 r) ∧ SumIs o r) ∧ Below w.heap.size w w' := by
  cases hf : [y, x].all finB with
  | false => exact ⟨none, angleNan hf⟩
  | true =>
    by_cases hz : FloatKind.f32.format.order x 0 = some .eq ∧ FloatKind.f32.format.order y 0 = some .eq
    · refine ⟨some 0, fun w => (angleZero hf hz.1 hz.2 w).mono ?_⟩
      rintro e w' ⟨rfl, hw⟩
      exact ⟨⟨0, rfl, by unfold W32; omega, rfl⟩, hw⟩
    · have h2 : finB y = true ∧ finB x = true := by simpa using hf
      obtain ⟨sy, my, ey, ry⟩ := finB_num h2.1
      obtain ⟨sx, mx, ex, rx⟩ := finB_num h2.2
      obtain ⟨wy, my', ey', cy, rwy, ly, zy, w64y⟩ := widen_num hy ry
      obtain ⟨wx, mx', ex', cx, rwx, lx, zx, w64x⟩ := widen_num hx rx
      have ra := abs_num rwy
      have rb := abs_num rwx
      have hne : ¬ (my' = 0 ∧ mx' = 0) := fun h => hz ⟨zero_mag rx (zx.1 h.2), zero_mag ry (zy.1 h.1)⟩
      obtain ⟨t, D⟩ := angD ra rb hne
      obtain ⟨u, v0, v1, v2, v3, E⟩ := angE D.bd
      obtain ⟨g, hg⟩ : ∃ g, (FloatKind.f64.format.order (wy % 9223372036854775808) (wx % 9223372036854775808) == some .gt) = g := ⟨_, rfl⟩
      obtain ⟨v, hv⟩ : ∃ v, v = if g then v3 else v2 := ⟨_, rfl⟩
      have bv : Bd .f64 v 12 ∧ v < 18446744073709551616 := by
        rw [hv]
        cases g
        · exact ⟨E.b2, E.w2⟩
        · exact ⟨E.b3, E.w3⟩
      obtain ⟨v4, v5, r, F⟩ := angF bv.1 bv.2 (FloatKind.f32.format.order x 0 == some .lt) (FloatKind.f32.format.order y 0 == some .lt)
      refine ⟨some r, fun w => (angleW hf hz (fun w => run_convert_float_float w _ _ .f32 .f64 y wy (by rw [Tryd.underlying24]; rfl) Tryd.underlying65 cy)
        (fun w => run_convert_float_float w _ _ .f32 .f64 x wx (by rw [Tryd.underlying24]; rfl) Tryd.underlying65 cx) (abs64_c w64y) (abs64_c w64x) D E hg hv rfl rfl F w).mono ?_⟩
      rintro e w' ⟨rfl, hw⟩
      exact ⟨⟨r, rfl, F.w, rfl⟩, hw⟩
theorem angleOf_c {y x : Nat} {o : Option Nat} (h : ∀ w, Calls Tryd.prog 55 #[.float .f32 y, .float .f32 x] w fun e w' => (∃ r, e = .returned (.float .f32 r) ∧ SumIs o r) ∧ Below w.heap.size w w') (w : World) :
    Calls Tryd.prog 56 #[.complex .f32 x y] w fun e w' => (∃ r, e = .returned (.float .f32 r) ∧ SumIs o r) ∧ Below w.heap.size w w' := by
  have H := Lib.hid h
  clear h
  go_enter Tryd.func56, Tryd.ntmps56
  go_wp2_with (go_at_call 55; refine (H.out _).mono ?_; rintro e w1 ⟨⟨r, rfl, hs⟩, hw⟩; have HS := Lib.hid hs; clear hs)
  go_ret
  exact ⟨⟨r, rfl, HS.out⟩, hw⟩
end Go.Proofs.YtglnfccglgladaaDoor
