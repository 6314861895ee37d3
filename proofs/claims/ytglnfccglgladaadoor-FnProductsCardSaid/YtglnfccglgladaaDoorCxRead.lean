/-
  A list of complex numbers read back from its text.
-/
import Derived.Test.YtglnfccglgladaaDoorCxText
import Derived.Test.YtglnfccglgladaaDoorRead6
namespace Go.Proofs.YtglnfccglgladaaDoor
open Go.RowKit
set_option linter.unusedVariables false

def cxB (p : Nat × Nat) : Value := .complex .f32 (bitsOf p.1) (bitsOf p.2)
theorem cxText_data {xs : List (Nat × Nat)} (h : xs ≠ []) : (cxText xs).data.toList = Lib.join ((cxTexts xs).map (·.data.toList)) [44] := by
  unfold cxText joinT
  rw [if_neg (by simpa [cxTexts] using h)]
theorem cxText_size {xs : List (Nat × Nat)} (h : xs ≠ []) : (cxText xs).size ≤ 17 * xs.length := by
  rw [← lenL, cxText_data h]
  exact join_cx xs
theorem cxText_ne {xs : List (Nat × Nat)} (h : xs ≠ []) : cxText xs ≠ noneB := by
  intro e
  cases xs with
  | nil => exact h rfl
  | cons x r =>
    have d := cxText_data h
    rw [e, cxTexts, List.map_cons, List.map_cons, Lib.join_cons] at d
    simp only [noneB, cxT, hex8, List.cons_append, List.cons.injEq] at d
    exact hdig_ne _ d.1.symm
theorem cxText_parts {xs : List (Nat × Nat)} (h : xs ≠ []) : Lib.countB (cxText xs) ⟨#[44]⟩ + 1 = xs.length ∧ Lib.splitB ⟨#[44]⟩ 0 (Lib.countB (cxText xs) ⟨#[44]⟩) (cxText xs) = cxTexts xs := by
  have k := splitB_join (cxTexts xs) (by simpa [cxTexts] using h) (by
    intro t ht
    obtain ⟨x, _, rfl⟩ := List.mem_map.1 ht
    intro hm
    rcases List.mem_append.1 (by simpa [cxT] using hm) with h | h
    · exact comma_hex8 _ h
    · exact comma_hex8 _ h) _ (cxText_data h)
  exact ⟨by rw [k.1]; simp [cxTexts], k.2⟩
theorem cxT_left (p : Nat × Nat) : ((cxT p).extract 0 8).data.toList = hex8 (bitsOf p.1) := by
  rw [Lib.extract_from_zero]
  rfl
theorem cxT_right (p : Nat × Nat) : ((cxT p).extract 8 16).data.toList = hex8 (bitsOf p.2) := by
  rw [Lib.extract_data]
  rfl
theorem cxT_size (p : Nat × Nat) : (cxT p).size = 16 := by
  rw [← lenL]; simp [cxT, hex8_length]

theorem readComplex_none (w : World) : Calls Tryd.prog 39 #[.string noneB] w fun e w' => (∃ c g, e = .returned (.tuple #[.slice (some ⟨g, 0, none⟩) 0 c, .bool true])) ∧ Below w.heap.size w w' := by
  go_enter Tryd.func39, Tryd.ntmps39
  go_wp2_with (go_at_call 82; refine (parted_none _).mono ?_; rintro e w1 ⟨rfl, rfl⟩)
  refine wp_loop_rounds 1 ?_
  rw [rounds_succ]
  go_wp2
  exact bodyPost_ret (v := .tuple #[.slice (some ⟨w.heap.size, 0, none⟩) 0 0, .bool true]) (by simp [results, Tryd.results39, go_sem]) rfl ⟨⟨_, _, rfl⟩, below1 _ _⟩
end Go.Proofs.YtglnfccglgladaaDoor
