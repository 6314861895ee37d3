/-
  The same complex numbers.
-/
import Derived.Test.YtglnfccglgladaaDoorSame
import Derived.Test.YtglnfccglgladaaDoorVec
namespace Go.Proofs.YtglnfccglgladaaDoor
open Go.RowKit
set_option linter.unusedVariables false

theorem sameComplex_c (x y u v : Nat) (w : World) : Calls Tryd.prog 45 #[.complex .f32 x y, .complex .f32 u v] w fun e w' => e = .returned (.bool (sameN x u && sameN y v)) ∧ w = w' := by
  cases h1 : sameN x u with
  | false =>
    have H1 := Lib.hid h1
    clear h1
    go_enter Tryd.func45, Tryd.ntmps45
    go_wp2_with (go_at_call 94; with_reducible refine (sameNumber_c x u _).mono ?_; rintro e w1 ⟨rfl, rfl⟩; rw [H1.out])
    go_ret
    exact ⟨rfl, rfl⟩
  | true =>
    cases h2 : sameN y v with
    | false =>
      have H1 := Lib.hid h1
      have H2 := Lib.hid h2
      clear h1 h2
      go_enter Tryd.func45, Tryd.ntmps45
      go_wp2_with (go_at_call 94; first | (with_reducible refine (sameNumber_c x u _).mono ?_; rintro e w1 ⟨rfl, rfl⟩; rw [H1.out]) | (with_reducible refine (sameNumber_c y v _).mono ?_; rintro e w1 ⟨rfl, rfl⟩; rw [H2.out]))
      go_ret
      exact ⟨rfl, rfl⟩
    | true =>
      have H1 := Lib.hid h1
      have H2 := Lib.hid h2
      clear h1 h2
      go_enter Tryd.func45, Tryd.ntmps45
      go_wp2_with (go_at_call 94; first | (with_reducible refine (sameNumber_c x u _).mono ?_; rintro e w1 ⟨rfl, rfl⟩; rw [H1.out]) | (with_reducible refine (sameNumber_c y v _).mono ?_; rintro e w1 ⟨rfl, rfl⟩; rw [H2.out]))
      go_ret
      exact ⟨rfl, rfl⟩

/-- The reference's sameness of two words. -/
theorem l01Same_c {x y : Nat} (hx : W32 x) (hy : W32 y) (h : bitsOf x = bitsOf y) (w : World) : Calls Tryd.prog 62 #[.float .f32 x, .float .f32 y] w fun e w' => e = .returned (.bool true) ∧ w = w' := by
  have H := Lib.hid h
  clear h
  go_enter Tryd.func62, Tryd.ntmps62
  go_wp2_with (go_at_call 107; first | (with_reducible refine (l01Bits_any x hx _).mono ?_; rintro e w1 ⟨rfl, rfl⟩; rw [H.out]) | (with_reducible refine (l01Bits_any y hy _).mono ?_; rintro e w1 ⟨rfl, rfl⟩))
  go_ret
  exact ⟨rfl, rfl⟩
theorem specSame_c {x y : Nat} (hx : W32 x) (hy : W32 y) (h : bitsOf x = bitsOf y) (w : World) : Calls Tryd.prog 16 #[.float .f32 x, .float .f32 y] w fun e w' => e = .returned (.bool true) ∧ w = w' := by
  have L := Lib.hid (fun w => l01Same_c hx hy h w)
  clear h
  go_enter Tryd.func16, Tryd.ntmps16
  go_wp2_with (go_at_call 62; refine (L.out _).mono ?_; rintro e w1 ⟨rfl, rfl⟩)
  go_ret
  exact ⟨rfl, rfl⟩

theorem l01CSame_c {x y u v : Nat} (hx : W32 x) (hy : W32 y) (hu : W32 u) (hv : W32 v) (h1 : bitsOf x = bitsOf u) (h2 : bitsOf y = bitsOf v) (w : World) : Calls Tryd.prog 127 #[.complex .f32 x y, .complex .f32 u v] w fun e w' => e = .returned (.bool true) ∧ w = w' := by
  have L1 := Lib.hid (fun w => l01Same_c hx hu h1 w)
  have L2 := Lib.hid (fun w => l01Same_c hy hv h2 w)
  clear h1 h2
  go_enter Tryd.func127, Tryd.ntmps127
  go_wp2_with (go_at_call 62; first | (with_reducible refine (L1.out _).mono ?_; rintro e w1 ⟨rfl, rfl⟩) | (with_reducible refine (L2.out _).mono ?_; rintro e w1 ⟨rfl, rfl⟩))
  go_ret
  exact ⟨rfl, rfl⟩
theorem specCSame_c {x y u v : Nat} (hx : W32 x) (hy : W32 y) (hu : W32 u) (hv : W32 v) (h1 : bitsOf x = bitsOf u) (h2 : bitsOf y = bitsOf v) (w : World) : Calls Tryd.prog 93 #[.complex .f32 x y, .complex .f32 u v] w fun e w' => e = .returned (.bool true) ∧ w = w' := by
  have L := Lib.hid (fun w => l01CSame_c hx hy hu hv h1 h2 w)
  clear h1 h2
  go_enter Tryd.func93, Tryd.ntmps93
  go_wp2_with (go_at_call 127; refine (L.out _).mono ?_; rintro e w1 ⟨rfl, rfl⟩)
  go_ret
  exact ⟨rfl, rfl⟩
end Go.Proofs.YtglnfccglgladaaDoor
