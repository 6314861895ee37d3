/-
  What is drawn: any vector, a vector of small whole numbers.
-/
import Derived.Test.YtglnfccglgladaaDoorDraw3
namespace Go.Proofs.YtglnfccglgladaaDoor
open Go.RowKit
set_option linter.unusedVariables false

theorem gcell {W w1 : World} {g : Nat} (hg : W.grownBy w1 (some g)) : ∀ b o, b < W.heap.size → b ≠ g → w1.cell? ⟨b, o, none⟩ = W.cell? ⟨b, o, none⟩ := fun b o hb hne =>
  World.cell?_of_block (hg.block b hb (fun e => hne (by simpa using e)))
theorem gfrozen {W w1 : World} {g : Nat} (hg : W.grownBy w1 (some g)) : ∀ b o, b < W.heap.size → b ≠ g → w1.frozen? ⟨b, o, none⟩ = W.frozen? ⟨b, o, none⟩ := fun b o hb hne =>
  World.frozen?_of_block (hg.block b hb (fun e => hne (by simpa using e)))
theorem gset {w X : World} {r : Option Nat} (h : w.grownBy X r) {a : Addr} (ha : w.heap.size ≤ a.block) (v : Value) : w.grownBy (X.setCell a v) r :=
  ⟨h.os, h.tape, h.output, by simpa [World.setCell] using h.size, fun k hk hne => by
    rw [Below.heap_setCell _ _ _ _ (by omega)]
    exact h.block k hk hne⟩
@[simp, go_sem] theorem size_setCell (w : World) (a : Addr) (v : Value) : (w.setCell a v).heap.size = w.heap.size := by simp [World.setCell]
theorem Src.set {w : World} {B g m : Nat} (h : Src w B g m) {a : Addr} (hB : B ≤ a.block) (hne : a.block ≠ g) (v : Value) : Src (w.setCell a v) B g m :=
  h.grown (r := some a.block) (fun k e => by injection e with e; subst e; exact ⟨hB, hne⟩)
    ⟨rfl, rfl, rfl, by simp [World.setCell], fun k hk h' => Below.heap_setCell _ _ _ _ (fun e => h' (by rw [e]))⟩

theorem from_c {w : World} {B n cp : Nat} {A : Option Addr} (hB : B ≤ w.heap.size) (hn : n ≤ 9223372036854775807) (hc : Code w B A n) :
    Calls Tryd.prog 59 #[.slice A n cp] w fun e w' => e = .returned (.pointer (some ⟨w.heap.size, 0, none⟩)) ∧ Src w' B w.heap.size 0 ∧ Below w.heap.size w w' := by
  have HC := Lib.hid hc
  clear hc
  go_enter Tryd.func59, Tryd.ntmps59
  go_wp2
  go_ret
  exact ⟨rfl, ⟨hB, A, n, cp, 0, 0, heap_alloc_new w _, Nat.le_refl _, hn, HC.out.grown (r := none) (fun k e => by cases e) (World.grownBy_alloc _ _ _)⟩, below1 w _⟩

def VecR (v : Value) : Prop := ∃ x y z : Nat, v = .agg #[.float .f32 x, .float .f32 y, .float .f32 z] ∧ x < 4294967296 ∧ y < 4294967296 ∧ z < 4294967296

/-- What a block of three cells says of them. -/
theorem three_facts {w : World} {g : Nat} {v0 v1 v2 : Value} {t : TypeId} (hb : w.heap[g]? = some (.cells #[v0, v1, v2] t (0, 0))) :
    (w.cell? ⟨g, 0, none⟩ = some v0 ∧ w.cell? ⟨g, 1, none⟩ = some v1 ∧ w.cell? ⟨g, 2, none⟩ = some v2) ∧ (w.frozen? ⟨g, 0, none⟩ = false ∧ w.frozen? ⟨g, 1, none⟩ = false ∧ w.frozen? ⟨g, 2, none⟩ = false) ∧ g < w.heap.size := by
  have c0 : w.cell? ⟨g, 0, none⟩ = some v0 := by simp [World.cell?, hb]
  exact ⟨⟨c0, by simp [World.cell?, hb], by simp [World.cell?, hb]⟩, ⟨by simp [World.frozen?, hb], by simp [World.frozen?, hb], by simp [World.frozen?, hb]⟩, World.block_lt_of_cell? w _ c0⟩
theorem gheap {W w1 : World} {g b : Nat} {o : Option Obj} (hg : W.grownBy w1 (some g)) (h : W.heap[b]? = o) (hb : b < W.heap.size) (hne : b ≠ g) : w1.heap[b]? = o :=
  (hg.block b hb (fun e => hne (by simpa using e))).trans h

set_option maxRecDepth 100000 in
set_option maxHeartbeats 2000000 in
theorem drawvec_c {w : World} {B g m : Nat} (h : Src w B g m) (hm : m ≤ 600000) (hBw : B ≤ w.heap.size) :
    Calls Tryd.prog 65 #[.pointer (some ⟨g, 0, none⟩)] w (Drawn B g (m + 18) w VecR) := by
  have hl := h.lt
  go_enter Tryd.func65, Tryd.ntmps65
  go_wp2_with fail
  refine (one_c (by omega) (h.alloc _) (by omega)).mono ?_
  rintro e w1 ⟨v, rfl, ⟨b, rfl⟩, hs1, hg1⟩
  have R1 := Lib.hid (gheap hg1 (heap_alloc_new w _) (by simp) (by omega))
  have G1 := Lib.hid (World.grownBy.trans (World.grownBy_alloc w _ (some g)) hg1)
  have z1 : w.heap.size < w1.heap.size := by have := hg1.size; simp at this; omega
  clear hg1 h
  go_wp2_with fail
  refine (small_c hs1 (by omega)).mono ?_
  rintro e w2 ⟨v, rfl, ⟨x, ax, rfl, _, _, _, hx⟩, hs2, hg2⟩
  have R2 := Lib.hid (gheap hg2 R1.out z1 (by omega))
  have G2 := Lib.hid (World.grownBy.trans G1.out hg2)
  have z2 : w1.heap.size ≤ w2.heap.size := hg2.size
  have l2 := hs2.lt
  clear hg2 hs1 R1 G1
  go_wp2_with fail
  refine (small_c (hs2.alloc _) (by omega)).mono ?_
  rintro e w3 ⟨v, rfl, ⟨y, ay, rfl, _, _, _, hy⟩, hs3, hg3⟩
  have V3 := Lib.hid (gheap hg3 (heap_alloc_new w2 _) (by simp) (by omega))
  have R3 := Lib.hid (gheap hg3 ((heap_alloc_old w2 _ (h := show w.heap.size < w2.heap.size by omega)).trans R2.out) (by simp; omega) (by omega))
  have G3 := Lib.hid (World.grownBy.trans (galloc G2.out _) hg3)
  have z3 : w2.heap.size < w3.heap.size := by have := hg3.size; simp at this; omega
  have l3 := hs3.lt
  clear hg3 hs2 R2 G2
  obtain ⟨⟨c0, c1, c2⟩, ⟨f0, f1, f2⟩, _⟩ := three_facts V3.out
  go_wp2_with fail
  have V4 := Lib.hid (set_heap V3.out 1 (.float .f32 y))
  have R4 := Lib.hid ((Below.heap_setCell w3 ⟨w2.heap.size, 1, none⟩ (.float .f32 y) w.heap.size (show w.heap.size ≠ w2.heap.size by omega)).trans R3.out)
  refine (small_c (hs3.set (a := ⟨w2.heap.size, 1, none⟩) (show B ≤ w2.heap.size by omega) (show w2.heap.size ≠ g by omega) _) (by omega)).mono ?_
  rintro e w4 ⟨v, rfl, ⟨z, az, rfl, _, _, _, hz⟩, hs4, hg4⟩
  have z4 : w3.heap.size ≤ w4.heap.size := by have := hg4.size; simpa using this
  have V5 := Lib.hid (gheap hg4 V4.out (by simp; omega) (by omega))
  have R5 := Lib.hid (gheap hg4 R4.out (by simp; omega) (by omega))
  have G4 := Lib.hid (World.grownBy.trans (gset G3.out (a := ⟨w2.heap.size, 1, none⟩) (show w.heap.size ≤ w2.heap.size by omega) (.float .f32 y)) hg4)
  have l4 := hs4.lt
  clear hg4 hs3 R3 G3 V3 V4 R4 c0 c1 c2 f0 f1 f2
  obtain ⟨⟨c0, c1, c2⟩, ⟨f0, f1, f2⟩, _⟩ := three_facts V5.out
  obtain ⟨⟨r0, r1, r2⟩, ⟨k0, k1, k2⟩, _⟩ := three_facts R5.out
  go_wp2_with fail
  · have V6 := Lib.hid (set_heap V5.out 2 (.float .f32 z))
    have R6 := Lib.hid ((Below.heap_setCell w4 ⟨w2.heap.size, 2, none⟩ (.float .f32 z) w.heap.size (show w.heap.size ≠ w2.heap.size by omega)).trans R5.out)
    refine (float_c (hs4.set (a := ⟨w2.heap.size, 2, none⟩) (show B ≤ w2.heap.size by omega) (show w2.heap.size ≠ g by omega) _) (by omega)).mono ?_
    rintro e w5 ⟨v, rfl, ⟨q, rfl, hq⟩, hs5, hg5⟩
    have z5 : w4.heap.size ≤ w5.heap.size := by have := hg5.size; simpa using this
    have V7 := Lib.hid (gheap hg5 V6.out (by simp; omega) (by omega))
    have R7 := Lib.hid (gheap hg5 R6.out (by simp; omega) (by omega))
    have G5 := Lib.hid (World.grownBy.trans (gset G4.out (a := ⟨w2.heap.size, 2, none⟩) (show w.heap.size ≤ w2.heap.size by omega) (.float .f32 z)) hg5)
    clear hg5 hs4 R5 G4 V5 V6 R6 c0 c1 c2 f0 f1 f2 r0 r1 r2 k0 k1 k2
    obtain ⟨⟨c0, c1, c2⟩, ⟨f0, f1, f2⟩, _⟩ := three_facts V7.out
    obtain ⟨⟨r0, r1, r2⟩, ⟨k0, k1, k2⟩, _⟩ := three_facts R7.out
    have hne : w.heap.size ≠ w2.heap.size := by omega
    go_wp2
    exact bodyPost_ret (v := .agg #[.float .f32 x, .float .f32 q, .float .f32 z]) (by simp [results, Tryd.results65, go_sem, *]) rfl ⟨_, rfl, ⟨_, _, _, rfl, by assumption, by assumption, by assumption⟩, Src.mono (by (repeat (first | with_reducible assumption | with_reducible apply Src.set)) <;> (simp <;> omega)) (by omega), gset (gset (gset (gset G5.out (show w.heap.size ≤ w2.heap.size by omega) _) (Nat.le_refl _) _) (Nat.le_refl _) _) (Nat.le_refl _) _⟩
  · have hne : w.heap.size ≠ w2.heap.size := by omega
    exact bodyPost_ret (v := .agg #[.float .f32 x, .float .f32 y, .float .f32 z]) (by simp [results, Tryd.results65, go_sem, *]) rfl ⟨_, rfl, ⟨_, _, _, rfl, by assumption, by assumption, by assumption⟩, Src.mono (by (repeat (first | with_reducible assumption | with_reducible apply Src.set)) <;> (simp <;> omega)) (by omega), gset (gset (gset (gset G4.out (show w.heap.size ≤ w2.heap.size by omega) _) (Nat.le_refl _) _) (Nat.le_refl _) _) (Nat.le_refl _) _⟩
end Go.Proofs.YtglnfccglgladaaDoor
