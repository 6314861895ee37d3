/-
  Small functions of the laws.
-/
import Derived.Test.YtglnfccglgladaaDoorSame2
import Derived.Test.YtglnfccglgladaaDoorStraight
import Derived.Test.YtglnfccglgladaaDoorDraw5
import Derived.Test.YtglnfccglgladaaDoorSmall
namespace Go.Proofs.YtglnfccglgladaaDoor
open Go.RowKit
set_option linter.unusedVariables false

theorem long_c {n c m d : Nat} {A B : Option Addr} (hn : n ≤ 1048576) (hm : m ≤ 1048576) (w : World) : Calls Tryd.prog 7 #[.slice A n c, .slice B m d] w fun e w' => e = .returned (.bool false) ∧ w = w' := by
  have h1 : decide (1048576 < (n : Int)) = false := by simp; omega
  have h2 : decide (1048576 < (m : Int)) = false := by simp; omega
  go_enter Tryd.func7, Tryd.ntmps7
  go_wp2
  go_ret
  exact ⟨rfl, rfl⟩

def Eq32 (x y : Nat) : Prop := FloatKind.f32.format.order x y = some .eq
theorem eq32_of {t x y : Nat} {a : Int} (hx : D32 t x a) (hy : D32 t y a) : Eq32 x y := by
  unfold Eq32
  rw [dy_order .f32 hx hy]
  simp

set_option maxRecDepth 100000 in
theorem vEqual_c {x y z x' y' z' : Nat} (h0 : Eq32 x x') (h1 : Eq32 y y') (h2 : Eq32 z z') (w : World) : Calls Tryd.prog 13 #[.agg #[.float .f32 x, .float .f32 y, .float .f32 z], .agg #[.float .f32 x', .float .f32 y', .float .f32 z']] w fun e w' =>
    e = .returned (.bool true) ∧ Below w.heap.size w w' := by
  unfold Eq32 at *
  go_enter Tryd.func13, Tryd.ntmps13
  go_wp2
  go_ret
  exact ⟨rfl, below2 w _ _⟩

theorem l01SameW_c {x : Nat} (hx : W32 x) (w : World) : Calls Tryd.prog 62 #[.float .f32 x, .float .f32 x] w fun e w' => e = .returned (.bool true) ∧ w = w' := by
  go_enter Tryd.func62, Tryd.ntmps62
  go_wp2_with (go_at_call 107; refine (l01Bits_any x hx _).mono ?_; rintro e w1 ⟨rfl, rfl⟩)
  go_ret
  exact ⟨rfl, rfl⟩
theorem specSameW_c {x : Nat} (hx : W32 x) (w : World) : Calls Tryd.prog 16 #[.float .f32 x, .float .f32 x] w fun e w' => e = .returned (.bool true) ∧ w = w' := by
  go_enter Tryd.func16, Tryd.ntmps16
  go_wp2_with (go_at_call 62; refine (l01SameW_c hx _).mono ?_; rintro e w1 ⟨rfl, rfl⟩)
  go_ret
  exact ⟨rfl, rfl⟩
end Go.Proofs.YtglnfccglgladaaDoor
