/-
  What is told is read back: lists of numbers; vectors.
-/
import Derived.Test.YtglnfccglgladaaDoorRead5
namespace Go.Proofs.YtglnfccglgladaaDoor
open Go.RowKit
set_option linter.unusedVariables false

theorem numTexts_map (xs : List Nat) : (numTexts xs).map (·.data.toList) = xs.map fun x => hex8 (bitsOf x) := by simp [numTexts]
theorem numText_data {xs : List Nat} (h : xs ≠ []) : (numText xs).data.toList = Lib.join (xs.map fun x => hex8 (bitsOf x)) [44] := by
  unfold numText joinT
  rw [if_neg (by simpa [numTexts] using h), numTexts_map]
theorem numText_size {xs : List Nat} (h : xs ≠ []) : (numText xs).size ≤ 9 * xs.length := by
  rw [← lenL, numText_data h, ← numTexts_map]
  exact join_hex xs
theorem numText_nil : numText [] = noneB := rfl
theorem hdig_ne (n : Nat) : hdig (n % 16) ≠ 110 := by
  have : ∀ m : Fin 16, hdig m.val ≠ 110 := by decide
  exact this ⟨n % 16, Nat.mod_lt _ (by omega)⟩
theorem numText_ne {xs : List Nat} (h : xs ≠ []) : numText xs ≠ noneB := by
  intro e
  cases xs with
  | nil => exact h rfl
  | cons x r =>
    have d := numText_data h
    rw [e, List.map_cons, Lib.join_cons] at d
    simp only [noneB, hex8, List.cons_append, List.cons.injEq] at d
    exact hdig_ne _ d.1.symm
theorem numText_parts {xs : List Nat} (h : xs ≠ []) : partsOf (numText xs) = numTexts xs := by
  rw [partsOf, if_neg (numText_ne h)]
  exact (splitB_join (numTexts xs) (by simpa [numTexts] using h) (by
    intro t ht
    obtain ⟨x, _, rfl⟩ := List.mem_map.1 ht
    exact comma_hex8 _) _ (by rw [numText_data h, numTexts_map])).2
theorem numText_reads {xs : List Nat} (h32 : ∀ x ∈ xs, W32 x) (hl : xs.length ≤ 256) : readNs (numTexts xs) = some (xs.map bitsOf) := by
  rw [readNs_good (by simpa [numTexts] using hl) (by
    rw [List.all_eq_true]
    intro t ht
    obtain ⟨x, hx, rfl⟩ := List.mem_map.1 ht
    show (readN (hex8 (bitsOf x))).2 = true
    rw [readN_hex8 (h32 x hx)])]
  congr 1
  rw [numTexts, List.map_map]
  apply List.map_congr_left
  intro x hx
  show (readN (hex8 (bitsOf x))).1 = _
  rw [readN_hex8 (h32 x hx)]

theorem readText_c {xs : List Nat} (h : xs ≠ []) (h32 : ∀ x ∈ xs, W32 x) (hl : xs.length ≤ 256) {w : World} (hm : MaxLen w) :
    Calls Tryd.prog 53 #[.string (numText xs)] w fun e w' => (∃ v, e = .returned (.tuple #[v, .bool true]) ∧ Own w w' 24 v (xs.map fun x => .float .f32 (bitsOf x))) ∧ Below w.heap.size w w' := by
  have k := readNumbers_some (numText_ne h) (by have := numText_size h; omega) hm
  rw [numText_parts h, numText_reads h32 hl] at k
  refine k.mono ?_
  rintro e w' ⟨⟨v, he, ho⟩, hb⟩
  exact ⟨⟨v, he, by rw [List.map_map] at ho; exact ho⟩, hb⟩

set_option maxRecDepth 100000 in
set_option maxHeartbeats 4000000 in
theorem readVector_c {x y z : Nat} (hx : W32 x) (hy : W32 y) (hz : W32 z) {w : World} (hm : MaxLen w) : Calls Tryd.prog 22 #[.string (numText [x, y, z])] w fun e w' =>
    e = .returned (.tuple #[.agg #[.float .f32 (bitsOf x), .float .f32 (bitsOf y), .float .f32 (bitsOf z)], .bool true]) ∧ Below w.heap.size w w' := by
  have R := Lib.hid (fun w hm => readText_c (xs := [x, y, z]) (by simp) (by simp; exact ⟨hx, hy, hz⟩) (by simp) (w := w) hm)
  have HM := Lib.hid hm
  clear hx hy hz hm
  go_enter Tryd.func22, Tryd.ntmps22
  go_wp2_with fail
  refine (R.out _ (HM.out.after (below1 w _))).mono ?_
  rintro e w1 ⟨⟨v, rfl, ho⟩, hb⟩
  obtain ⟨g, c, rfl, hg1, hg2, hg3, hg4⟩ := ho.at_ (by simp)
  have c0 : w1.cell? ⟨g, 0, none⟩ = some (.float .f32 (bitsOf x)) := hg4 0 (by simp)
  have c1 : w1.cell? ⟨g, 1, none⟩ = some (.float .f32 (bitsOf y)) := hg4 1 (by simp)
  have c2 : w1.cell? ⟨g, 2, none⟩ = some (.float .f32 (bitsOf z)) := hg4 2 (by simp)
  have hr := three_facts ((hb.block w.heap.size (by simp)).trans (heap_alloc_new w _))
  obtain ⟨⟨r0, r1, r2⟩, ⟨f0, f1, f2⟩, hrl⟩ := hr
  have hB := Lib.hid (bthen (below1 _ _) hb)
  simp only [World.size_alloc] at hg1
  have hne : g ≠ w.heap.size := by omega
  clear ho hb hg4 R HM hg3
  simp only [List.map_cons, List.map_nil, List.length_cons, List.length_nil]
  go_wp2
  refine wp_region_held 10 (by kernel_rfl) (by kernel_rfl) ?_
  simp only [List.take_succ_cons, List.take_zero, List.drop_succ_cons, List.drop_zero]
  repeat (refine tame_step rfl ?_; apply Exists.intro; refine ⟨fun w' hw => ?_, ?_⟩; (have hc := hw.cell; go_simp; first | (with_reducible rfl)); (try simp only [Act.put, List.setIfInBounds_toArray, List.set_cons_zero, List.set_cons_succ]))
  refine wpQuiet_nil ?_
  intro w' hw
  have hc := hw.cell
  have hf := hw.frozen
  have hB2 := Lib.hid (bthen hB.out hw)
  go_wp2
  exact bodyPost_ret (v := .tuple #[.agg #[.float .f32 (bitsOf x), .float .f32 (bitsOf y), .float .f32 (bitsOf z)], .bool true]) (by simp [results, Tryd.results22, go_sem, *]) rfl ⟨rfl, by repeat (first | exact hB2.out | refine bset ?_ (by simp <;> omega) _)⟩
end Go.Proofs.YtglnfccglgladaaDoor
