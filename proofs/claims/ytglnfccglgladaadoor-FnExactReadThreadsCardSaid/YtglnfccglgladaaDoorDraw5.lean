/-
  What is drawn: any vector of a text of choices.
-/
import Derived.Test.YtglnfccglgladaaDoorDraw4
namespace Go.Proofs.YtglnfccglgladaaDoor
open Go.RowKit
set_option linter.unusedVariables false

set_option maxRecDepth 100000 in
set_option maxHeartbeats 1000000 in
theorem anyvec_c {w : World} {n cp : Nat} {A : Option Addr} (hn : n ≤ 9223372036854775807) (hc : Code w w.heap.size A n) :
    Calls Tryd.prog 20 #[.slice A n cp] w fun e w' => ∃ v, e = .returned v ∧ VecR v ∧ Below w.heap.size w w' := by
  go_enter Tryd.func20, Tryd.ntmps20
  go_wp2_with fail
  refine (from_c (B := w.heap.size) (by simp) hn (hc.grown (r := none) (fun k e => by cases e) (World.grownBy_alloc _ _ _))).mono ?_
  rintro e w1 ⟨rfl, hs, hb⟩
  simp only [World.size_alloc] at hs
  have z1 : w.heap.size < w1.heap.size := by have := hb.size; simp at this; omega
  have R1 := Lib.hid ((hb.block w.heap.size (by simp)).trans (heap_alloc_new w _))
  have H1 : Below w.heap.size w w1 := bthen (below1 w _) hb
  clear hb hc
  go_wp2_with fail
  refine (drawvec_c hs (by omega) (by omega)).mono ?_
  rintro e w2 ⟨v, rfl, ⟨x, y, z, rfl, hx, hy, hz⟩, hs2, hg2⟩
  have R2 := Lib.hid (gheap hg2 R1.out z1 (by simp))
  have H2 : Below w.heap.size w w2 := H1.grown hg2 H1.size (fun k e => by simp at e; omega)
  clear R1 hg2 hs
  obtain ⟨⟨c0, c1, c2⟩, ⟨f0, f1, f2⟩, _⟩ := three_facts R2.out
  go_wp2
  exact bodyPost_ret (v := .agg #[.float .f32 x, .float .f32 y, .float .f32 z]) (by simp [results, Tryd.results20, go_sem, *]) rfl ⟨_, rfl, ⟨_, _, _, rfl, hx, hy, hz⟩, bset (bset (bset H2 (Nat.le_refl _) _) (Nat.le_refl _) _) (Nat.le_refl _) _⟩

theorem whole_z (a : Int) (h0 : -1000 ≤ a) (h1 : a ≤ 1000) : D32 0 (floatOfInt .f32 a) a ∧ floatOfInt .f32 a < 4294967296 :=
  ⟨dy_of .f32 a (by show _ < 16777216; omega), by have := floatOfInt_wf .f32 a; simpa [Lit.wf] using this⟩

def WholeR (v : Value) : Prop := ∃ (x y z : Nat) (a b c : Int), v = .agg #[.float .f32 x, .float .f32 y, .float .f32 z] ∧ (D32 0 x a ∧ -50 ≤ a ∧ a ≤ 50) ∧ (D32 0 y b ∧ -50 ≤ b ∧ b ≤ 50) ∧ (D32 0 z c ∧ -50 ≤ c ∧ c ≤ 50)

set_option maxRecDepth 100000 in
set_option maxHeartbeats 1000000 in
theorem whole_c {w : World} {n cp : Nat} {A : Option Addr} (hn : n ≤ 9223372036854775807) (hc : Code w w.heap.size A n) :
    Calls Tryd.prog 8 #[.slice A n cp, .int .i64 50] w fun e w' => ∃ v, e = .returned v ∧ WholeR v ∧ Below w.heap.size w w' := by
  go_enter Tryd.func8, Tryd.ntmps8
  go_wp2_with fail
  refine (from_c (B := w.heap.size) (by simp) hn (hc.grown (r := none) (fun k e => by cases e) (World.grownBy_alloc _ _ _))).mono ?_
  rintro e w1 ⟨rfl, hs, hb⟩
  simp only [World.size_alloc] at hs
  have z1 : w.heap.size < w1.heap.size := by have := hb.size; simp at this; omega
  have R1 := Lib.hid ((hb.block w.heap.size (by simp)).trans (heap_alloc_new w _))
  have H1 : Below w.heap.size w w1 := bthen (below1 w _) hb
  have l1 := hs.lt
  clear hb hc
  go_wp2_with fail
  refine (pick_c (by omega) hs (by omega)).mono ?_
  rintro e w2 ⟨v, rfl, ⟨x, rfl, x0, x1⟩, hs2, hg2⟩
  have x2 : x ≤ 100 := by omega
  have z2 : w1.heap.size ≤ w2.heap.size := hg2.size
  have R2 := Lib.hid (gheap hg2 R1.out z1 (by simp))
  have H2 : Below w.heap.size w w2 := H1.grown hg2 H1.size (fun k e => by simp at e; omega)
  have l2 := hs2.lt
  clear R1 hg2 hs x1 H1 l1
  go_wp2_with fail
  refine (pick_c (by omega) (hs2.alloc _) (by omega)).mono ?_
  rintro e w3 ⟨v, rfl, ⟨y, rfl, y0, y1⟩, hs3, hg3⟩
  have y2 : y ≤ 100 := by omega
  have z3 : w2.heap.size < w3.heap.size := by have := hg3.size; simp at this; omega
  have V3 := Lib.hid (gheap hg3 (heap_alloc_new w2 _) (by simp) (by omega))
  have R3 := Lib.hid (gheap hg3 ((heap_alloc_old w2 _ (h := show w.heap.size < w2.heap.size by omega)).trans R2.out) (by simp; omega) (by omega))
  have H3 : Below w.heap.size w w3 := (balloc H2 _).grown hg3 (balloc H2 _).size (fun k e => by simp at e; omega)
  have l3 := hs3.lt
  clear hg3 hs2 R2 H2 y1
  obtain ⟨⟨c0, c1, c2⟩, ⟨f0, f1, f2⟩, _⟩ := three_facts V3.out
  go_wp2_with fail
  have V4 := Lib.hid (set_heap V3.out 1 (.float .f32 (floatOfInt .f32 (y - 50))))
  have R4 := Lib.hid ((Below.heap_setCell w3 ⟨w2.heap.size, 1, none⟩ (.float .f32 (floatOfInt .f32 (y - 50))) w.heap.size (show w.heap.size ≠ w2.heap.size by omega)).trans R3.out)
  refine (pick_c (by omega) (hs3.set (a := ⟨w2.heap.size, 1, none⟩) (show w.heap.size ≤ w2.heap.size by omega) (show w2.heap.size ≠ w.heap.size + 1 by omega) _) (by omega)).mono ?_
  rintro e w4 ⟨v, rfl, ⟨z, rfl, z0, z1'⟩, hs4, hg4⟩
  have zz : z ≤ 100 := by omega
  have z4 : w3.heap.size ≤ w4.heap.size := by have := hg4.size; simpa using this
  have V5 := Lib.hid (gheap hg4 V4.out (by simp; omega) (by omega))
  have R5 := Lib.hid (gheap hg4 R4.out (by simp; omega) (by omega))
  have H4 : Below w.heap.size w w4 := (bset H3 (p := ⟨w2.heap.size, 1, none⟩) (show w.heap.size ≤ w2.heap.size by omega) (.float .f32 (floatOfInt .f32 (y - 50)))).grown hg4 (by simp; omega) (fun k e => by simp at e; omega)
  clear hg4 hs3 R3 H3 V3 V4 R4 c0 c1 c2 f0 f1 f2 z1' hs4
  obtain ⟨⟨c0, c1, c2⟩, ⟨f0, f1, f2⟩, _⟩ := three_facts V5.out
  obtain ⟨⟨r0, r1, r2⟩, ⟨k0, k1, k2⟩, _⟩ := three_facts R5.out
  have hne : w.heap.size ≠ w2.heap.size := by omega
  go_wp2
  have e1 := whole_z (x - 50) (by omega) (by omega)
  have e2 := whole_z (y - 50) (by omega) (by omega)
  have e3 := whole_z (z - 50) (by omega) (by omega)
  exact bodyPost_ret (v := .agg #[.float .f32 (floatOfInt .f32 (x - 50)), .float .f32 (floatOfInt .f32 (y - 50)), .float .f32 (floatOfInt .f32 (z - 50))]) (by simp [results, Tryd.results8, go_sem, *]) rfl
    ⟨_, rfl, ⟨_, _, _, _, _, _, rfl, ⟨e1.1, by omega, by omega⟩, ⟨e2.1, by omega, by omega⟩, ⟨e3.1, by omega, by omega⟩⟩, bset (bset (bset (bset H4 (p := ⟨w2.heap.size, 2, none⟩) (show w.heap.size ≤ w2.heap.size by omega) _) (Nat.le_refl _) _) (Nat.le_refl _) _) (Nat.le_refl _) _⟩
end Go.Proofs.YtglnfccglgladaaDoor
