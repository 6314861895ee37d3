/-
  The text of a vector.
-/
import Derived.Test.YtglnfccglgladaaDoorText
import Derived.Test.YtglnfccglgladaaDoorDraw4
namespace Go.Proofs.YtglnfccglgladaaDoor
open Go.RowKit
set_option linter.unusedVariables false

theorem numbers_c (x y z : Nat) (w : World) : Calls Tryd.prog 66 #[.agg #[.float .f32 x, .float .f32 y, .float .f32 z]] w fun e w' =>
    (∃ b, e = .returned (.slice (some ⟨b, 0, none⟩) 3 3) ∧ Nums w' b 0 [x, y, z]) ∧ Below w.heap.size w w' := by
  go_enter Tryd.func66, Tryd.ntmps66
  go_wp2
  go_ret
  have hh : ((w.alloc (.cells #[.float .f32 x, .float .f32 y, .float .f32 z] 26)).alloc (.cells #[.float .f32 x, .float .f32 y, .float .f32 z] 24)).heap[w.heap.size + 1]? = some (.cells #[.float .f32 x, .float .f32 y, .float .f32 z] 24 (0, 0)) := by
    have := heap_alloc_new (w.alloc (.cells #[.float .f32 x, .float .f32 y, .float .f32 z] 26)) (.cells #[.float .f32 x, .float .f32 y, .float .f32 z] 24)
    rwa [World.size_alloc] at this
  obtain ⟨⟨c0, c1, c2⟩, _, hlt⟩ := three_facts hh
  refine ⟨⟨_, rfl, hlt, fun j x hj => ?_⟩, below2 w _ _⟩
  match j, hj with
  | 0, hj => simp at hj; subst hj; exact c0
  | 1, hj => simp at hj; subst hj; exact c1
  | 2, hj => simp at hj; subst hj; exact c2
  | j + 3, hj => simp at hj

theorem vectorText_c {x y z : Nat} (hx : W32 x) (hy : W32 y) (hz : W32 z) (w : World) : Calls Tryd.prog 21 #[.agg #[.float .f32 x, .float .f32 y, .float .f32 z]] w fun e w' =>
    e = .returned (.string (numText [x, y, z])) ∧ Below w.heap.size w w' := by
  have H := Lib.hid (show ∀ q ∈ [x, y, z], W32 q by simp; exact ⟨hx, hy, hz⟩)
  clear hx hy hz
  go_enter Tryd.func21, Tryd.ntmps21
  go_wp2_with (first
    | (go_at_call 66; refine (numbers_c x y z _).mono ?_; rintro e w1 ⟨⟨b, rfl, hn⟩, hw1⟩; have HN := Lib.hid hn; have HB := Lib.hid (bthen (below1 _ _) hw1); clear hn hw1)
    | (go_at_call 52; refine (numbersText_c (xs := [x, y, z]) HN.out H.out (by simp)).mono ?_; rintro e w2 ⟨rfl, hw2⟩; have HC := Lib.hid (bthen HB.out hw2); clear hw2))
  go_ret
  exact ⟨rfl, HC.out⟩
end Go.Proofs.YtglnfccglgladaaDoor
