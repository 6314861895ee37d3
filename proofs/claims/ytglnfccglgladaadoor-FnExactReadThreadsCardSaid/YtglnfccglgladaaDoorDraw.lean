/-
  The source of choices: what each draw gives lies in its range, and only the source's own block changes.
-/
import Derived.Test.YtglnfccglgladaaDoorScal
import Derived.Test.YtglnfccglgladaaDoorTame
import Derived.OwnWalk
import Derived.Lib.Hide
namespace Go.Proofs.YtglnfccglgladaaDoor
open Go.RowKit
set_option linter.unusedVariables false

/-- The bytes that choices are read from: each is a byte, in a block below B. -/
def Code (w : World) (B : Nat) (A : Option Addr) (n : Nat) : Prop :=
  0 < n → ∃ b off, A = some ⟨b, off, none⟩ ∧ b < B ∧ ∀ i, i < n → ∃ z : Int, 0 ≤ z ∧ z ≤ 255 ∧ w.cell? ⟨b, off + i, none⟩ = some (.int .u8 z)

/-- The source lies in block g and has read at most m times. -/
structure Src (w : World) (B g m : Nat) : Prop where
  le : B ≤ g
  ex : ∃ (A : Option Addr) (n cp k : Nat) (seed : Int), w.heap[g]? = some (.cells #[.slice A n cp, .int .i64 k, .int .u64 seed] 122 (0, 0)) ∧ k ≤ m ∧ n ≤ 9223372036854775807 ∧ Code w B A n

theorem src_facts {w : World} {g : Nat} {v0 v1 v2 : Value} (hb : w.heap[g]? = some (.cells #[v0, v1, v2] 122 (0, 0))) :
    w.cell? ⟨g, 0, none⟩ = some v0 ∧ w.cell? ⟨g, 1, none⟩ = some v1 ∧ w.cell? ⟨g, 2, none⟩ = some v2 ∧ w.frozen? ⟨g, 1, none⟩ = false ∧ w.frozen? ⟨g, 2, none⟩ = false ∧ g < w.heap.size := by
  have c0 : w.cell? ⟨g, 0, none⟩ = some v0 := by simp [World.cell?, hb]
  exact ⟨c0, by simp [World.cell?, hb], by simp [World.cell?, hb], by simp [World.frozen?, hb], by simp [World.frozen?, hb], World.block_lt_of_cell? w _ c0⟩

theorem and255 (x : Int) : 0 ≤ bits .and .u64 x 255 ∧ bits .and .u64 x 255 ≤ 255 := by
  have h : bits .and .u64 x 255 = IntKind.u64.wrap (((BitVec.ofInt 64 x &&& BitVec.ofInt 64 255).toNat : Nat) : Int) := rfl
  have h1 : (BitVec.ofInt 64 255).toNat = 255 := by decide
  rw [h, BitVec.toNat_and, h1]
  have := Nat.and_le_right (n := (BitVec.ofInt 64 x).toNat) (m := 255)
  rw [IntWalk.u64_in _ (by omega)]
  omega

theorem set_heap {w : World} {g : Nat} {cs : Array Value} {t : TypeId} {fr : Nat × Nat} (hb : w.heap[g]? = some (.cells cs t fr)) (o : Nat) (v : Value) : (w.setCell ⟨g, o, none⟩ v).heap[g]? = some (.cells (cs.setIfInBounds o v) t fr) := by
  unfold World.setCell
  simp only [Array.getElem?_modify, hb, if_true]
  rfl
theorem grown_any {w w' : World} (h : w.grownBy w' none) (r : Option Nat) : w.grownBy w' r := ⟨h.os, h.tape, h.output, h.size, fun k hk _ => h.block k hk (by simp)⟩
theorem grown_set {w w' : World} {g : Nat} (h : w.grownBy w' (some g)) (o : Nat) (v : Value) : w.grownBy (w'.setCell ⟨g, o, none⟩ v) (some g) :=
  ⟨h.os, h.tape, h.output, by simpa [World.setCell] using h.size, fun k hk hne => by
    rw [Below.heap_setCell _ _ _ _ (fun e => hne (by rw [e]))]
    exact h.block k hk hne⟩

set_option maxRecDepth 100000 in
set_option maxHeartbeats 1000000 in
theorem next_in {w : World} {g b off n cp k : Nat} {seed z : Int} (hb : w.heap[g]? = some (.cells #[.slice (some ⟨b, off, none⟩) n cp, .int .i64 k, .int .u64 seed] 122 (0, 0)))
    (hn : n ≤ 9223372036854775807) (hk : k < n) (hk2 : k ≤ 1000000) (hz : w.cell? ⟨b, off + k, none⟩ = some (.int .u8 z)) (hz0 : 0 ≤ z) (hz1 : z ≤ 255) (hbg : b < g) :
    Calls Tryd.prog 106 #[.pointer (some ⟨g, 0, none⟩)] w fun e w' => ∃ seed', e = .returned (.int .i64 z) ∧ w'.heap[g]? = some (.cells #[.slice (some ⟨b, off, none⟩) n cp, .int .i64 (k + 1 : Nat), .int .u64 seed'] 122 (0, 0)) ∧ w.grownBy w' (some g) := by
  obtain ⟨c0, c1, c2, f1, f2, hgl⟩ := src_facts hb
  have hzw : IntKind.i64.wrap z = z := IntWalk.i64_in z (by omega)
  have i0 : (0 : Int) ≤ (k : Int) := by omega
  have i1 : (k : Int) < (n : Int) := by omega
  have hbl : b < w.heap.size := World.block_lt_of_cell? w _ hz
  have HB := Lib.hid hb
  clear hb
  go_enter Tryd.func106, Tryd.ntmps106
  go_wp2
  refine wp_region_reads (by kernel_rfl) (by kernel_rfl) ?_
  repeat (refine tame_step rfl ?_; apply Exists.intro; refine ⟨fun w' hw => ?_, ?_⟩; (have hc := hw.cell; go_simp; first | (with_reducible rfl)); (try simp only [Act.put, List.setIfInBounds_toArray, List.set_cons_zero, List.set_cons_succ]))
  refine wpQuiet_nil ?_
  intro w1 hw1
  have g1 : w.grownBy w1 none := ⟨hw1.os, hw1.tape, hw1.output, hw1.size, fun i hi _ => hw1.block i hi⟩
  have hz' : w1.cell? ⟨b, off + k, none⟩ = some (.int .u8 z) := (hw1.cell b (off + k) hbl).trans hz
  have hb' : w1.heap[g]? = some (.cells #[.slice (some ⟨b, off, none⟩) n cp, .int .i64 k, .int .u64 seed] 122 (0, 0)) := (hw1.block g hgl).trans HB.out
  clear c0 c1 c2 f1 f2 hgl hbl hz hw1 HB
  obtain ⟨c0, c1, c2, f1, f2, hgl⟩ := src_facts hb'
  have hbl : b < w1.heap.size := World.block_lt_of_cell? w1 _ hz'
  have HB := Lib.hid hb'
  clear hb'
  go_wp2
  refine wp_region_reads (by kernel_rfl) (by kernel_rfl) ?_
  repeat (refine tame_step rfl ?_; apply Exists.intro; refine ⟨fun w' hw => ?_, ?_⟩; (have hc := hw.cell; go_simp; first | (with_reducible rfl)); (try simp only [Act.put, List.setIfInBounds_toArray, List.set_cons_zero, List.set_cons_succ]))
  refine wpQuiet_nil ?_
  intro w2 hw2
  have g2 : w.grownBy w2 none := g1.trans ⟨hw2.os, hw2.tape, hw2.output, hw2.size, fun i hi _ => hw2.block i hi⟩
  have hb' : w2.heap[g]? = some (.cells #[.slice (some ⟨b, off, none⟩) n cp, .int .i64 k, .int .u64 seed] 122 (0, 0)) := (hw2.block g hgl).trans HB.out
  clear c0 c1 c2 f1 f2 hgl hbl hz' hw2 HB g1
  obtain ⟨c0, c1, c2, f1, f2, hgl⟩ := src_facts hb'
  have HB := Lib.hid hb'
  clear hb'
  have hk3 : IntKind.i64.wrap ((k : Int) + 1) = (k : Int) + 1 := IntWalk.i64_in _ (by omega)
  go_wp2
  generalize IntKind.u64.wrap (IntKind.u64.wrap (IntKind.u64.wrap (seed * 6364136223846793005) + z) + 1442695040888963407) = s'
  have hb4 : ((w2.setCell ⟨g, 1, none⟩ (.int .i64 ((k : Int) + 1))).setCell ⟨g, 2, none⟩ (.int .u64 s')).heap[g]? = some (.cells #[.slice (some ⟨b, off, none⟩) n cp, .int .i64 ((k : Int) + 1), .int .u64 s'] 122 (0, 0)) := set_heap (set_heap HB.out 1 _) 2 _
  have g4 : w.grownBy ((w2.setCell ⟨g, 1, none⟩ (.int .i64 ((k : Int) + 1))).setCell ⟨g, 2, none⟩ (.int .u64 s')) (some g) := grown_set (grown_set (grown_any g2 _) _ _) _ _
  generalize (w2.setCell ⟨g, 1, none⟩ (.int .i64 ((k : Int) + 1))).setCell ⟨g, 2, none⟩ (.int .u64 s') = w4 at *
  clear c0 c1 c2 f1 f2 hgl g2 HB
  obtain ⟨c0, c1, c2, f1, f2, hgl⟩ := src_facts hb4
  have HB := Lib.hid hb4
  clear hb4
  have i2 : (k : Int) + 1 ≤ (n : Int) := by omega
  refine wp_region_reads (by kernel_rfl) (by kernel_rfl) ?_
  repeat (refine tame_step rfl ?_; apply Exists.intro; refine ⟨fun w' hw => ?_, ?_⟩; (have hc := hw.cell; go_simp; first | (with_reducible rfl)); (try simp only [Act.put, List.setIfInBounds_toArray, List.set_cons_zero, List.set_cons_succ]))
  refine wpQuiet_nil ?_
  intro w5 hw5
  have g5 : w.grownBy w5 (some g) := g4.trans ⟨hw5.os, hw5.tape, hw5.output, hw5.size, fun i hi _ => hw5.block i hi⟩
  have hb5 : w5.heap[g]? = some (.cells #[.slice (some ⟨b, off, none⟩) n cp, .int .i64 ((k : Int) + 1), .int .u64 s'] 122 (0, 0)) := (hw5.block g hgl).trans HB.out
  clear c0 c1 c2 f1 f2 hgl hw5 HB g4
  have HB := Lib.hid hb5
  clear hb5
  go_wp2
  go_ret
  exact ⟨s', rfl, HB.out, g5⟩

set_option maxRecDepth 100000 in
set_option maxHeartbeats 1000000 in
theorem next_out {w : World} {g n cp k : Nat} {A : Option Addr} {seed : Int} (hb : w.heap[g]? = some (.cells #[.slice A n cp, .int .i64 k, .int .u64 seed] 122 (0, 0)))
    (hn : n ≤ 9223372036854775807) (hk : n ≤ k) (hk2 : k ≤ 1000000) :
    Calls Tryd.prog 106 #[.pointer (some ⟨g, 0, none⟩)] w fun e w' => ∃ z seed', e = .returned (.int .i64 z) ∧ 0 ≤ z ∧ z ≤ 255 ∧ w'.heap[g]? = some (.cells #[.slice A n cp, .int .i64 (k + 1 : Nat), .int .u64 seed'] 122 (0, 0)) ∧ w.grownBy w' (some g) := by
  obtain ⟨c0, c1, c2, f1, f2, hgl⟩ := src_facts hb
  have i0 : (0 : Int) ≤ (k : Int) := by omega
  have i1 : (n : Int) ≤ (k : Int) := by omega
  have HB := Lib.hid hb
  clear hb
  go_enter Tryd.func106, Tryd.ntmps106
  go_wp2
  refine wp_region_reads (by kernel_rfl) (by kernel_rfl) ?_
  repeat (refine tame_step rfl ?_; apply Exists.intro; refine ⟨fun w' hw => ?_, ?_⟩; (have hc := hw.cell; go_simp; first | (with_reducible rfl)); (try simp only [Act.put, List.setIfInBounds_toArray, List.set_cons_zero, List.set_cons_succ]))
  refine wpQuiet_nil ?_
  intro w2 hw2
  have g2 : w.grownBy w2 none := ⟨hw2.os, hw2.tape, hw2.output, hw2.size, fun i hi _ => hw2.block i hi⟩
  have hb' : w2.heap[g]? = some (.cells #[.slice A n cp, .int .i64 k, .int .u64 seed] 122 (0, 0)) := (hw2.block g hgl).trans HB.out
  clear c0 c1 c2 f1 f2 hgl hw2 HB
  obtain ⟨c0, c1, c2, f1, f2, hgl⟩ := src_facts hb'
  have HB := Lib.hid hb'
  clear hb'
  have hk3 : IntKind.i64.wrap ((k : Int) + 1) = (k : Int) + 1 := IntWalk.i64_in _ (by omega)
  go_wp2
  generalize IntKind.u64.wrap (IntKind.u64.wrap (IntKind.u64.wrap (seed * 6364136223846793005)) + 1442695040888963407) = s'
  have hb4 : ((w2.setCell ⟨g, 1, none⟩ (.int .i64 ((k : Int) + 1))).setCell ⟨g, 2, none⟩ (.int .u64 s')).heap[g]? = some (.cells #[.slice A n cp, .int .i64 ((k : Int) + 1), .int .u64 s'] 122 (0, 0)) := set_heap (set_heap HB.out 1 _) 2 _
  have g4 : w.grownBy ((w2.setCell ⟨g, 1, none⟩ (.int .i64 ((k : Int) + 1))).setCell ⟨g, 2, none⟩ (.int .u64 s')) (some g) := grown_set (grown_set (grown_any g2 _) _ _) _ _
  generalize (w2.setCell ⟨g, 1, none⟩ (.int .i64 ((k : Int) + 1))).setCell ⟨g, 2, none⟩ (.int .u64 s') = w4 at *
  clear c0 c1 c2 f1 f2 hgl g2 HB
  obtain ⟨c0, c1, c2, f1, f2, hgl⟩ := src_facts hb4
  have HB := Lib.hid hb4
  clear hb4
  have i2 : (n : Int) < (k : Int) + 1 := by omega
  clear i1
  refine wp_region_reads (by kernel_rfl) (by kernel_rfl) ?_
  repeat (refine tame_step rfl ?_; apply Exists.intro; refine ⟨fun w' hw => ?_, ?_⟩; (have hc := hw.cell; go_simp; first | (with_reducible rfl)); (try simp only [Act.put, List.setIfInBounds_toArray, List.set_cons_zero, List.set_cons_succ]))
  refine wpQuiet_nil ?_
  intro w5 hw5
  have g5 : w.grownBy w5 (some g) := g4.trans ⟨hw5.os, hw5.tape, hw5.output, hw5.size, fun i hi _ => hw5.block i hi⟩
  have hb5 : w5.heap[g]? = some (.cells #[.slice A n cp, .int .i64 ((k : Int) + 1), .int .u64 s'] 122 (0, 0)) := (hw5.block g hgl).trans HB.out
  clear c0 c1 c2 f1 f2 hgl hw5 HB g4
  obtain ⟨c0, c1, c2, f1, f2, hgl⟩ := src_facts hb5
  have HB := Lib.hid hb5
  clear hb5
  go_wp2
  go_ret
  have hz := and255 (s' / 1099511627776)
  have hw : wrap64 (bits .and .u64 (s' / 1099511627776) 255) = bits .and .u64 (s' / 1099511627776) 255 := by
    unfold wrap64
    omega
  exact ⟨bits .and .u64 (s' / 1099511627776) 255, s', by simp only [hw]; rfl, hz.1, hz.2, HB.out, g5⟩

theorem Code.kept {w w' : World} {B g n : Nat} {A : Option Addr} (h : Code w B A n) (hB : B ≤ g) (hg : w.grownBy w' (some g)) : Code w' B A n := fun hn => by
  obtain ⟨b, off, e, hb, hc⟩ := h hn
  refine ⟨b, off, e, hb, fun i hi => ?_⟩
  obtain ⟨z, z0, z1, hz⟩ := hc i hi
  exact ⟨z, z0, z1, hg.cell hz (by simp; omega)⟩

theorem next_c {w : World} {B g m : Nat} (h : Src w B g m) (hm : m ≤ 1000000) :
    Calls Tryd.prog 106 #[.pointer (some ⟨g, 0, none⟩)] w fun e w' => ∃ z, e = .returned (.int .i64 z) ∧ 0 ≤ z ∧ z ≤ 255 ∧ Src w' B g (m + 1) ∧ w.grownBy w' (some g) := by
  obtain ⟨hB, A, n, cp, k, seed, hb, hk, hn, hcode⟩ := h
  by_cases hlt : k < n
  · obtain ⟨b, off, rfl, hbB, hc⟩ := hcode (by omega)
    obtain ⟨z, z0, z1, hz⟩ := hc k hlt
    refine (next_in hb hn hlt (by omega) hz z0 z1 (by omega)).mono ?_
    rintro e w' ⟨seed', rfl, hb', hg⟩
    exact ⟨z, rfl, z0, z1, ⟨hB, _, n, cp, k + 1, seed', hb', by omega, hn, hcode.kept hB hg⟩, hg⟩
  · refine (next_out hb hn (by omega) (by omega)).mono ?_
    rintro e w' ⟨z, seed', rfl, z0, z1, hb', hg⟩
    exact ⟨z, rfl, z0, z1, ⟨hB, A, n, cp, k + 1, seed', hb', by omega, hn, hcode.kept hB hg⟩, hg⟩
end Go.Proofs.YtglnfccglgladaaDoor
