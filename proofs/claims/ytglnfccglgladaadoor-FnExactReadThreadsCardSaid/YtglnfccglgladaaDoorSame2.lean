/-
  The same vectors.
-/
import Derived.Test.YtglnfccglgladaaDoorSame
namespace Go.Proofs.YtglnfccglgladaaDoor
open Go.RowKit
set_option linter.unusedVariables false

theorem sameList_c {w : World} {b1 o1 c1 b2 o2 c2 : Nat} {xs ys : List Nat} (h1 : Nums w b1 o1 xs) (h2 : Nums w b2 o2 ys) (hl1 : xs.length ≤ 1000000) (hl2 : ys.length ≤ 1000000) :
    Calls Tryd.prog 67 #[.slice (some ⟨b1, o1, none⟩) xs.length c1, .slice (some ⟨b2, o2, none⟩) ys.length c2] w fun e w' => e = .returned (.bool (sameNs xs ys)) ∧ w = w' := by
  have E := Lib.hid (equalFunc_c (c1 := c1) (c2 := c2) h1 h2 hl1 hl2)
  clear h1 h2 hl1 hl2
  go_enter Tryd.func67, Tryd.ntmps67
  go_wp2_with (go_at_call 110; refine E.out.mono ?_; rintro e w1 ⟨rfl, rfl⟩)
  go_ret
  exact ⟨rfl, rfl⟩

theorem Nums.after {W W' : World} {b o : Nat} {xs : List Nat} (h : Nums W b o xs) (k : Below W.heap.size W W') : Nums W' b o xs :=
  ⟨Nat.lt_of_lt_of_le h.1 k.size, fun j x hj => by rw [k.cell (p := ⟨b, o + j, none⟩) h.1]; exact h.2 j x hj⟩

theorem keep6 {w X w' : World} {B : Nat} {u0 u1 u2 v0 v1 v2 : Value} (h : X.cell? ⟨B, 0, none⟩ = some u0 ∧ X.cell? ⟨B, 1, none⟩ = some u1 ∧ X.cell? ⟨B, 2, none⟩ = some u2 ∧ X.cell? ⟨B + 1, 0, none⟩ = some v0 ∧ X.cell? ⟨B + 1, 1, none⟩ = some v1 ∧ X.cell? ⟨B + 1, 2, none⟩ = some v2 ∧ Hid (Below B w X))
    (k : Below X.heap.size X w') : w'.cell? ⟨B, 0, none⟩ = some u0 ∧ w'.cell? ⟨B, 1, none⟩ = some u1 ∧ w'.cell? ⟨B, 2, none⟩ = some u2 ∧ w'.cell? ⟨B + 1, 0, none⟩ = some v0 ∧ w'.cell? ⟨B + 1, 1, none⟩ = some v1 ∧ w'.cell? ⟨B + 1, 2, none⟩ = some v2 ∧ Hid (Below B w w') := by
  obtain ⟨h0, h1, h2, k0, k1, k2, hb⟩ := h
  have l0 := World.block_lt_of_cell? X _ h0
  have l1 := World.block_lt_of_cell? X _ k0
  exact ⟨by rw [k.cell (p := ⟨B, 0, none⟩) l0, h0], by rw [k.cell (p := ⟨B, 1, none⟩) l0, h1], by rw [k.cell (p := ⟨B, 2, none⟩) l0, h2], by rw [k.cell (p := ⟨B + 1, 0, none⟩) l1, k0], by rw [k.cell (p := ⟨B + 1, 1, none⟩) l1, k1], by rw [k.cell (p := ⟨B + 1, 2, none⟩) l1, k2], Lib.hid (Below.trans hb.out (k.mono (Nat.le_of_lt l0)))⟩

set_option maxRecDepth 100000 in
set_option maxHeartbeats 4000000 in
theorem sameVector_c (x y z x' y' z' : Nat) (w : World) : Calls Tryd.prog 23 #[.agg #[.float .f32 x, .float .f32 y, .float .f32 z], .agg #[.float .f32 x', .float .f32 y', .float .f32 z']] w fun e w' =>
    e = .returned (.bool (sameNs [x, y, z] [x', y', z'])) ∧ Below w.heap.size w w' := by
  go_enter Tryd.func23, Tryd.ntmps23
  go_wp2
  have E0 := (heap_alloc_old (w.alloc (.cells #[.float .f32 x, .float .f32 y, .float .f32 z] 26)) (.cells #[.float .f32 x', .float .f32 y', .float .f32 z'] 26) (h := show w.heap.size < (w.alloc (.cells #[.float .f32 x, .float .f32 y, .float .f32 z] 26)).heap.size by simp)).trans (heap_alloc_new w _)
  have E1 := heap_alloc_new (w.alloc (.cells #[.float .f32 x, .float .f32 y, .float .f32 z] 26)) (.cells #[.float .f32 x', .float .f32 y', .float .f32 z'] 26)
  rw [World.size_alloc] at E1
  have EB := below2 w (.cells #[.float .f32 x, .float .f32 y, .float .f32 z] 26) (.cells #[.float .f32 x', .float .f32 y', .float .f32 z'] 26)
  generalize (w.alloc (.cells #[.float .f32 x, .float .f32 y, .float .f32 z] 26)).alloc (.cells #[.float .f32 x', .float .f32 y', .float .f32 z'] 26) = W at *
  obtain ⟨⟨p0, p1, p2⟩, _, _⟩ := three_facts E0
  obtain ⟨⟨q0, q1, q2⟩, _, _⟩ := three_facts E1
  have S0 := keep6 ⟨p0, p1, p2, q0, q1, q2, Lib.hid EB⟩ (Below.refl W.heap.size W).drew
  clear p0 p1 p2 q0 q1 q2 E0 E1 EB
  go_region_held3 (fun w' => w'.cell? ⟨w.heap.size, 0, none⟩ = some (.float .f32 x) ∧ w'.cell? ⟨w.heap.size, 1, none⟩ = some (.float .f32 y) ∧ w'.cell? ⟨w.heap.size, 2, none⟩ = some (.float .f32 z) ∧ w'.cell? ⟨w.heap.size + 1, 0, none⟩ = some (.float .f32 x') ∧ w'.cell? ⟨w.heap.size + 1, 1, none⟩ = some (.float .f32 y') ∧ w'.cell? ⟨w.heap.size + 1, 2, none⟩ = some (.float .f32 z') ∧ Hid (Below w.heap.size w w'))
    (first | exact S0 | assumption | exact keep6 (by assumption) (by assumption))
    (first
      | (go_at_call 66; first
          | (refine (numbers_c x y z _).mono ?_; rintro e w1 ⟨⟨b1, rfl, hn1⟩, hw1⟩; have HN1 := Lib.hid hn1; clear hn1)
          | (refine (numbers_c x' y' z' _).mono ?_; rintro e w2 ⟨⟨b2, rfl, hn2⟩, hw2⟩; have HN2 := Lib.hid (hn2); have HN3 := Lib.hid (HN1.out.after hw2); clear hn2 HN1))
      | (go_at_call 67; refine (sameList_c (xs := [x, y, z]) (ys := [x', y', z']) HN3.out HN2.out (by simp) (by simp)).mono ?_; rintro e w3 ⟨rfl, rfl⟩))
  rename_i hH
  have HB := hH.2.2.2.2.2.2
  clear hH S0
  go_wp2
  go_ret
  exact ⟨rfl, HB.out⟩
end Go.Proofs.YtglnfccglgladaaDoor
