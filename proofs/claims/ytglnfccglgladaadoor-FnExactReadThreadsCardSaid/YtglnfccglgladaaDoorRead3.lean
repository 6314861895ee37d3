/-
  What is told is read back: one number.
-/
import Derived.Test.YtglnfccglgladaaDoorRead2
namespace Go.Proofs.YtglnfccglgladaaDoor
open Go.RowKit
set_option linter.unusedVariables false

theorem hv_hdig {n : Nat} (h : n < 16) : hv (hdig n) = n := by
  have : ∀ m : Fin 16, hv (hdig m.val) = (m.val : Int) := by decide
  exact this ⟨n, h⟩
theorem bitsOf_idem (x : Nat) : bitsOf (bitsOf x) = bitsOf x := by
  cases h : nan32 x with
  | true => have e : bitsOf x = 2143289344 := by simp [bitsOf, h]
            rw [e]; rfl
  | false => have e : bitsOf x = x := by simp [bitsOf, h]
             rw [e, e]
theorem hval_hex8 {b : Nat} (h : b < 4294967296) : hval (hex8 b) = b := by
  simp only [hval, hex8, List.foldl_cons, List.foldl_nil]
  repeat rw [hv_hdig (Nat.mod_lt _ (by omega))]
  simp only [Int.toNat_natCast]
  omega
theorem all_hex8 (b : Nat) : (hex8 b).all (fun c => 0 ≤ hv c) = true := by
  rw [List.all_eq_true]
  intro c hc
  simp only [hex8, List.mem_cons, List.not_mem_nil, or_false] at hc
  rcases hc with rfl | rfl | rfl | rfl | rfl | rfl | rfl | rfl <;> (rw [hv_hdig (Nat.mod_lt _ (by omega))]; simp; omega)
theorem readN_hex8 {x : Nat} (h : W32 x) : readN (hex8 (bitsOf x)) = (bitsOf x, true) := by
  rw [readN_good (by rw [hex8_length]; omega) (all_hex8 _), hval_hex8 (bitsOf_lt h), bitsOf_idem]
  simp [hex8_length]
theorem comma_hex8 (b : Nat) : (44 : UInt8) ∉ hex8 b := by
  have : ∀ m : Fin 16, (44 : UInt8) ≠ hdig m.val := by decide
  have h : ∀ n, (44 : UInt8) ≠ hdig (n % 16) := fun n => this ⟨n % 16, Nat.mod_lt _ (by omega)⟩
  simp [hex8, h]
end Go.Proofs.YtglnfccglgladaaDoor
